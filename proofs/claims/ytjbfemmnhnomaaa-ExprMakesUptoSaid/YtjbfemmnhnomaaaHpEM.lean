import Derived.Test.YtjbfemmnhnomaaaProg
import Derived.Test.YtjbfemmnhnomaaaHpEwG
import Derived.Test.YtjbfemmnhnomaaaHpEwR
import Derived.KernelRfl
set_option maxRecDepth 20000
set_option linter.unusedVariables false
namespace Go.Ev.HpEM
def kinds : List Kind := [.other,
  .fn,
  .int .i64,
  .int .i64,
  .bool,
  .int .u8,
  .int .u8,
  .st [(0, 2), (1, 3), (2, 4), (3, 6)] 4 [none, none, none, none] [(.int .i64 0), (.int .i64 0), (.bool false), (.int .u8 0)] true,
  .st [(0, 2), (1, 3), (2, 4), (3, 6)] 4 [none, none, none, none] [(.int .i64 0), (.int .i64 0), (.bool false), (.int .u8 0)] true,
  .str,
  .str,
  .str,
  .int .u64,
  .other,
  .other,
  .ptr 153,
  .ptr 156,
  .ptr 165,
  .st [(0, 17)] 1 [none] [.nilp] false,
  .st [(0, 17)] 1 [none] [.nilp] false,
  .other,
  .int .i32,
  .sl .pat 24 6 80,
  .st [(0, 3), (1, 9), (2, 9), (3, 3), (4, 3), (5, 22)] 6 [none, none, none, none, none, (some .pat)] [(.int .i64 0), (.str []), (.str []), (.int .i64 0), (.int .i64 0), .nils] false,
  .st [(0, 3), (1, 9), (2, 9), (3, 3), (4, 3), (5, 22)] 6 [none, none, none, none, none, (some .pat)] [(.int .i64 0), (.str []), (.str []), (.int .i64 0), (.int .i64 0), .nils] false,
  .sl .exp 43 7 96,
  .sl .itm 67 4 56,
  .st [(0, 24), (6, 25), (7, 9), (8, 3), (9, 2), (10, 26)] 11 [none, none, none, none, none, (some .pat), (some .exp), none, none, none, (some .itm)] [(.int .i64 0), (.str []), (.str []), (.int .i64 0), (.int .i64 0), .nils, .nils, (.str []), (.int .i64 0), (.int .i64 0), .nils] false,
  .st [(0, 24), (6, 25), (7, 9), (8, 3), (9, 2), (10, 26)] 11 [none, none, none, none, none, (some .pat), (some .exp), none, none, none, (some .itm)] [(.int .i64 0), (.str []), (.str []), (.int .i64 0), (.int .i64 0), .nils, .nils, (.str []), (.int .i64 0), (.int .i64 0), .nils] false,
  .sl .str 9 1 16,
  .fn,
  .fn,
  .fn,
  .fn,
  .fn,
  .fn,
  .fn,
  .fn,
  .fn,
  .fn,
  .st [(0, 3), (1, 2), (2, 9)] 3 [none, none, none] [(.int .i64 0), (.int .i64 0), (.str [])] true,
  .st [(0, 3), (1, 2), (2, 9)] 3 [none, none, none] [(.int .i64 0), (.int .i64 0), (.str [])] true,
  .st [(0, 3), (1, 41), (4, 9), (5, 9), (6, 25)] 7 [none, none, none, none, none, none, (some .exp)] [(.int .i64 0), (.int .i64 0), (.int .i64 0), (.str []), (.str []), (.str []), .nils] false,
  .st [(0, 3), (1, 41), (4, 9), (5, 9), (6, 25)] 7 [none, none, none, none, none, none, (some .exp)] [(.int .i64 0), (.int .i64 0), (.int .i64 0), (.str []), (.str []), (.str []), .nils] false,
  .fn,
  .fn,
  .fn,
  .fn,
  .fn,
  .fn,
  .fn,
  .fn,
  .fn,
  .fn,
  .fn,
  .fn,
  .fn,
  .fn,
  .int .i64,
  .fn,
  .fn,
  .fn,
  .fn,
  .fn,
  .fn,
  .fn,
  .st [(0, 9), (1, 3), (2, 9), (3, 9)] 4 [none, none, none, none] [(.str []), (.int .i64 0), (.str []), (.str [])] true,
  .st [(0, 9), (1, 3), (2, 9), (3, 9)] 4 [none, none, none, none] [(.str []), (.int .i64 0), (.str []), (.str [])] true,
  .fn,
  .fn,
  .fn,
  .fn,
  .sl (.int .i64) 3 1 8,
  .fn,
  .fn,
  .fn,
  .fn,
  .fn,
  .fn,
  .fn,
  .fn,
  .fn,
  .fn,
  .fn,
  .fn,
  .fn,
  .fn,
  .other,
  .fn,
  .fn,
  .fn,
  .st [(0, 28)] 11 [none, none, none, none, none, (some .pat), (some .exp), none, none, none, (some .itm)] [(.int .i64 0), (.str []), (.str []), (.int .i64 0), (.int .i64 0), .nils, .nils, (.str []), (.int .i64 0), (.int .i64 0), .nils] false,
  .st [(0, 28)] 11 [none, none, none, none, none, (some .pat), (some .exp), none, none, none, (some .itm)] [(.int .i64 0), (.str []), (.str []), (.int .i64 0), (.int .i64 0), .nils, .nils, (.str []), (.int .i64 0), (.int .i64 0), .nils] false,
  .fn,
  .fn,
  .fn,
  .fn,
  .fn,
  .fn,
  .fn,
  .fn,
  .fn,
  .int .u64,
  .fn,
  .fn,
  .fn,
  .fn,
  .fn,
  .st [(0, 24), (6, 3)] 7 [none, none, none, none, none, (some .pat), none] [(.int .i64 0), (.str []), (.str []), (.int .i64 0), (.int .i64 0), .nils, (.int .i64 0)] false,
  .st [(0, 24), (6, 3)] 7 [none, none, none, none, none, (some .pat), none] [(.int .i64 0), (.str []), (.str []), (.int .i64 0), (.int .i64 0), .nils, (.int .i64 0)] false,
  .fn,
  .fn,
  .mp .str .bool 9 4,
  .fn,
  .fn,
  .fn,
  .fn,
  .fn,
  .fn,
  .fn,
  .fn,
  .int .i64,
  .other,
  .fn,
  .fn,
  .fn,
  .fn,
  .other,
  .fn,
  .fn,
  .int .u32,
  .fn,
  .int .u64,
  .fn,
  .fn,
  .fn,
  .fn,
  .fn,
  .fn,
  .int .u64,
  .fn,
  .fn,
  .fn,
  .ptr 3,
  .fn,
  .fn,
  .fn,
  .fn,
  .ptr 139,
  .other,
  .fn,
  .fn,
  .st [(0, 17), (1, 17), (2, 17), (3, 9)] 4 [none, none, none, none] [.nilp, .nilp, .nilp, (.str [])] false,
  .st [(0, 17), (1, 17), (2, 17), (3, 9)] 4 [none, none, none, none] [.nilp, .nilp, .nilp, (.str [])] false,
  .other,
  .other,
  .other,
  .fn,
  .int .u8,
  .int .u8,
  .fn,
  .ptr 5,
  .int .i32,
  .int .i32,
  .st [(0, 12), (1, 12), (2, 130), (3, 158), (4, 5), (5, 5), (6, 159), (7, 160), (8, 161), (9, 162), (10, 163)] 11 [none, none, none, none, none, none, none, none, none, none, none] [(.int .u64 0), (.int .u64 0), (.int .u32 0), (.int .u8 0), (.int .u8 0), (.int .u8 0), (.int .u8 0), .nilf, .nilp, (.int .i32 0), (.int .i32 0)] false,
  .st [(0, 12), (1, 12), (2, 130), (3, 158), (4, 5), (5, 5), (6, 159), (7, 160), (8, 161), (9, 162), (10, 163)] 11 [none, none, none, none, none, none, none, none, none, none, none] [(.int .u64 0), (.int .u64 0), (.int .u32 0), (.int .u8 0), (.int .u8 0), (.int .u8 0), (.int .u8 0), .nilf, .nilp, (.int .i32 0), (.int .i32 0)] false,
  .other]
def res : List VSh := [.tup [],
  .tup [],
  .tup [],
  .one (.v .bool),
  .one (.v .bool),
  .one (.v .bool),
  .one (.v .bool),
  .one (.v .bool),
  .one (.v .bool),
  .one (.v .bool),
  .one (.v .bool),
  .one (.v .bool),
  .one (.v .bool),
  .one (.v .bool),
  .one (.v .bool),
  .one (.v .bool),
  .one (.v (.dat .qry)),
  .one (.v (.dat .qry)),
  .one (.v .bool),
  .one (.v .bool),
  .one (.v (.int .i64)),
  .one (.v (.int .i64)),
  .one (.v (.int .i64)),
  .one (.v (.int .i64)),
  .one (.v .bool),
  .one (.v (.dat .pat)),
  .one (.v .bool),
  .one (.v .bool),
  .one (.v .bool),
  .one (.v (.dat .exp)),
  .one (.v (.dat .exp)),
  .one (.v (.dat .exp)),
  .one (.v (.dat .exp)),
  .one (.v (.int .i64)),
  .one (.v .bool),
  .one (.v (.sl .pat)),
  .one (.v (.sl .pat)),
  .one (.v (.sl .pat)),
  .one (.v (.sl .pat)),
  .one (.v (.sl .exp)),
  .one (.v (.sl .exp)),
  .one (.v .bool),
  .one (.v (.sl .str)),
  .one (.v (.int .i64)),
  .one (.v (.int .i64)),
  .one (.v (.int .i64)),
  .one (.v (.int .i64)),
  .one (.v (.int .i64)),
  .one (.v (.int .i64)),
  .one (.v (.int .i64)),
  .one (.v .bool),
  .one (.v (.sl .str)),
  .one (.v (.sl .str)),
  .one (.v .bool),
  .one (.v (.int .i64)),
  .one (.v (.int .i64)),
  .one (.v (.sl .exp)),
  .one (.v (.dat .pat)),
  .one (.v (.int .i64)),
  .one (.v .str),
  .one (.v (.int .i64)),
  .one (.v (.int .i64)),
  .one (.v (.int .i64)),
  .one (.v (.int .i64)),
  .one (.v (.sl .str)),
  .one (.v (.sl .str)),
  .one (.v .str),
  .one (.v .bool),
  .one (.v (.dat .val)),
  .one (.v (.dat .val)),
  .one (.v (.int .i64)),
  .one (.v (.sl .pat)),
  .one (.v .bool),
  .one (.v .bool),
  .one (.v .bool),
  .one (.v (.sl .exp)),
  .one (.c .undef),
  .tup [],
  .one (.v (.sl .str)),
  .one (.v .bool),
  .one (.v .bool),
  .one (.v (.int .i64)),
  .one (.v (.int .i64)),
  .one (.v (.sl .str)),
  .tup [.v (.sl .str), .v (.sl .str), .v (.sl (.int .i64))],
  .one (.v .bool),
  .one (.v .bool),
  .one (.v (.int .i64)),
  .one (.v (.int .i64)),
  .one (.v (.int .i64)),
  .one (.v (.int .i64)),
  .one (.v (.sl .exp)),
  .one (.v .bool),
  .one (.v (.int .i64)),
  .one (.v (.int .i64)),
  .one (.v (.int .i64)),
  .one (.v (.int .i64)),
  .one (.v (.sl .pat)),
  .one (.v .bool),
  .one (.v (.int .i64)),
  .one (.v (.sl .exp)),
  .tup [],
  .one (.v .bool),
  .tup [],
  .one (.v (.int .i64)),
  .one (.v .bool),
  .one (.v .bool),
  .one (.v .bool),
  .one (.v .bool),
  .one (.v .bool),
  .one (.v .bool),
  .one (.v .bool),
  .one (.c .undef),
  .one (.v .bool),
  .one (.v (.int .i64)),
  .one (.v .bool),
  .one (.v .bool),
  .one (.v .bool),
  .one (.v .bool),
  .one (.v .bool),
  .one (.v .bool),
  .one (.v (.int .i64)),
  .one (.v .bool),
  .tup [],
  .one (.v .bool),
  .tup [],
  .tup [],
  .tup [],
  .tup [],
  .tup [.v (.int .i64), .v (.int .i64)],
  .tup [],
  .one (.v .bool),
  .one (.v .bool),
  .one (.v (.int .i64)),
  .tup [.v (.int .i64), .v .bool],
  .one (.v (.int .i64)),
  .one (.v (.int .i64)),
  .one (.v .bool),
  .one (.v .bool),
  .one (.v (.int .i64)),
  .one (.v .bool),
  .one (.v .bool),
  .tup [],
  .one (.v .bool),
  .one (.v .bool),
  .one (.v (.int .i64)),
  .one (.v .bool),
  .tup [],
  .tup [],
  .tup [],
  .one (.v (.int .u64)),
  .one (.v (.int .u64)),
  .one (.v (.int .i64)),
  .one (.v (.int .i64)),
  .one (.v .bool),
  .one (.v .bool),
  .one (.v .bool),
  .one (.v .bool),
  .tup [],
  .tup [],
  .tup [.v (.int .i64), .v (.int .i64)],
  .one (.v .str),
  .tup [],
  .one (.v .str),
  .tup [],
  .one (.v .str),
  .tup [],
  .one (.v .str),
  .tup [],
  .one (.v .str),
  .tup [],
  .one (.v .str),
  .tup [],
  .one (.v (.int .i64)),
  .one (.v .str),
  .tup [],
  .one (.v .str)]
def rty : Nat → List AVal → List AObj → List FSh
  | 76, _, _ => [⟨[.box [.v (.int .i64), .v (.int .i64), .v (.int .i64), .v .str, .v .str, .v .str, .v (.sl .exp)]], .one (.c (.clo 101 [0]))⟩]
  | 112, _, _ => [⟨[.box [.v (.int .i64), .v .str, .v .str, .v (.int .i64), .v (.int .i64), .v (.sl .pat)]], .one (.c (.clo 142 [0]))⟩]
  | f, _, objs => shapes res f objs
def mask : Nat → List Nat → Option (List Nat)
  | 6, [1, 1] => some [1, 2, 3, 4, 5]
  | 6, [1, 1, 0, 1, 0] => some [1, 2, 3, 4, 5, 11]
  | 29, [1, 1] => some [1, 2, 3, 6]
  | 29, [1, 1, 1, 0, 1, 0] => some [1, 2, 3, 6, 7, 20, 21, 22]
  | 30, [1, 1, 1] => some [1, 2, 3, 6, 7]
  | 30, [1, 1, 1, 1, 0, 1, 0] => some [1, 2, 3, 6, 7, 8]
  | 31, [1, 1, 1, 0, 1, 0] => some [0, 4, 5, 12, 13, 14]
  | 32, [1, 1] => some [0, 1, 4]
  | 32, [1, 1, 1, 0, 1, 0] => some [0, 1, 4, 5, 6]
  | 46, [1, 1, 0, 1, 0] => some [1, 3, 4]
  | 49, [1, 1, 0, 1, 0] => some [2, 3, 5, 6]
  | 49, [1, 1, 1, 0, 1, 0] => some [2, 3, 7]
  | 49, [1, 1, 1, 0, 1, 0, 0, 1] => some [2, 3, 7]
  | 58, [1, 0, 1, 0] => some [0, 1, 7, 8]
  | 59, [1, 0, 1, 0] => some [0, 1, 2, 7]
  | 66, [1, 0, 1, 1] => some [0, 2, 7, 18]
  | _, _ => none
noncomputable def cx : Cx := { prog := Go.Proofs.Try.prog, kinds := kinds, rty := rty, mutp := fun _ _ => false, mask := mask }
noncomputable def law09_ExprMakes (k : Nat) (x : Exp) (from_ : List Bytes) (to_ : List Bytes) (k_ : Int) (l : List Exp) : Option (Bool × Unit) := acall cx k 6 [.agg (cells .exp x), .sl .str false from_, .sl .str false to_, .int .i64 k_, .sl .exp false l] []
def law09_ExprMakes_j0_st (x : Exp) (from_ : List Bytes) (to_ : List Bytes) (k_ : Int) (l : List Exp) : St := { tmps := [.undef, .sl .str false from_, .sl .str false to_, .int .i64 k_, .sl .exp false l, .ptr 0 0, .undef, .undef, .undef, .undef, .undef, .undef, .undef, .undef, .undef, .undef, .undef, .undef, .undef, .undef, .undef, .undef, .undef, .undef, .undef, .undef, .undef, .undef, .undef, .undef, .undef, .undef, .undef, .undef, .undef, .undef, .undef, .undef, .undef, .undef, .undef, .undef, .undef, .undef, .undef, .undef, .undef, .undef, .undef, .undef, .undef, .undef, .undef, .undef, .undef], objs := [.box (cells .exp x)] }
noncomputable def law09_ExprMakes_j0 (k : Nat) (x : Exp) (from_ : List Bytes) (to_ : List Bytes) (k_ : Int) (l : List Exp) : Option (Bool × Unit) := aresume cx k 6 [.agg (cells .exp x), .sl .str false from_, .sl .str false to_, .int .i64 k_, .sl .exp false l] [] [1, 1] [] (law09_ExprMakes_j0_st x from_ to_ k_ l)
def law09_ExprMakes_l0_st (x : Exp) (from_ : List Bytes) (to_ : List Bytes) (k_ : Int) (l : List Exp) (i : Int) : St := { tmps := [.undef, .sl .str false from_, .sl .str false to_, .int .i64 k_, .sl .exp false l, .ptr 0 0, .undef, .undef, .undef, .undef, .undef, .int .i64 i, .undef, .undef, .undef, .undef, .undef, .undef, .undef, .undef, .undef, .undef, .undef, .undef, .undef, .undef, .undef, .undef, .undef, .undef, .undef, .undef, .undef, .undef, .undef, .undef, .undef, .undef, .undef, .undef, .undef, .undef, .undef, .undef, .undef, .undef, .undef, .undef, .undef, .undef, .undef, .undef, .undef, .undef, .undef], objs := [.box (cells .exp x)] }
noncomputable def law09_ExprMakes_l0 (k : Nat) (n : Nat) (x : Exp) (from_ : List Bytes) (to_ : List Bytes) (k_ : Int) (l : List Exp) (i : Int) : Option (Bool × Unit) := aresume cx k 6 [.agg (cells .exp x), .sl .str false from_, .sl .str false to_, .int .i64 k_, .sl .exp false l] [] [1, 1, 0, 1, 0] [n] (law09_ExprMakes_l0_st x from_ to_ k_ l i)
noncomputable def law09_light (k : Nat) (x : Exp) : Option (Bool × Unit) := acall cx k 26 [.agg (cells .exp x)] []
noncomputable def law09_awake (k : Nat) : Option (Bool × Unit) := acall cx k 27 [] []
noncomputable def expr_Rename (k : Nat) (x : Exp) (from_ : List Bytes) (to_ : List Bytes) : Option (Exp × Unit) := acall cx k 29 [.agg (cells .exp x), .sl .str false from_, .sl .str false to_] []
def expr_Rename_j0_st (x : Exp) (from_ : List Bytes) (to_ : List Bytes) (x_4 : Bytes) : St := { tmps := [.undef, .sl .str false from_, .sl .str false to_, .ptr 0 0, .undef, .undef, .ptr 1 0, .undef, .undef, .undef, .undef, .undef, .undef, .undef, .undef, .undef, .undef, .undef, .undef, .undef, .undef, .undef, .undef, .undef, .undef, .undef, .undef, .undef, .undef, .undef, .undef, .undef, .undef, .undef, .undef, .undef, .undef], objs := [.box [.int .i64 x.k, .int .i64 x.v.k, .int .i64 x.v.n, .str x.v.s, .str x_4, .str x.field, .sl .exp false x.l], .box [.int .i64 0, .int .i64 0, .int .i64 0, .str ([] : Bytes), .str ([] : Bytes), .str ([] : Bytes), .own 2], .arr .exp false ([] : List Exp)] }
noncomputable def expr_Rename_j0 (k : Nat) (x : Exp) (from_ : List Bytes) (to_ : List Bytes) (x_4 : Bytes) : Option (Exp × Unit) := aresume cx k 29 [.agg (cells .exp x), .sl .str false from_, .sl .str false to_] [] [1, 1] [] (expr_Rename_j0_st x from_ to_ x_4)
def expr_Rename_l0_st (x : Exp) (from_ : List Bytes) (to_ : List Bytes) (x_4 : Bytes) (t22 : Int) (l : List Exp) : St := { tmps := [.undef, .sl .str false from_, .sl .str false to_, .ptr 0 0, .undef, .undef, .ptr 1 0, .own 2, .undef, .undef, .undef, .undef, .undef, .undef, .undef, .undef, .undef, .undef, .undef, .undef, .sl .exp false x.l, .int .i64 ((List.length x.l : Nat) : Int), .int .i64 t22, .undef, .undef, .undef, .undef, .undef, .undef, .undef, .undef, .undef, .undef, .undef, .undef, .undef, .undef], objs := [.box [.int .i64 x.k, .int .i64 x.v.k, .int .i64 x.v.n, .str x.v.s, .str x_4, .str x.field, .sl .exp false x.l], .box [.int .i64 0, .int .i64 0, .int .i64 0, .str ([] : Bytes), .str ([] : Bytes), .str ([] : Bytes), .own 3], .arr .exp false l, .arr .exp false ([] : List Exp)] }
noncomputable def expr_Rename_l0 (k : Nat) (n : Nat) (x : Exp) (from_ : List Bytes) (to_ : List Bytes) (x_4 : Bytes) (t22 : Int) (l : List Exp) : Option (Exp × Unit) := aresume cx k 29 [.agg (cells .exp x), .sl .str false from_, .sl .str false to_] [] [1, 1, 1, 0, 1, 0] [n] (expr_Rename_l0_st x from_ to_ x_4 t22 l)
noncomputable def ref09_Rename (k : Nat) (x : Exp) (from_ : List Bytes) (to_ : List Bytes) : Option (Exp × Unit) := acall cx k 30 [.agg (cells .exp x), .sl .str false from_, .sl .str false to_] []
def ref09_Rename_j0_st (x : Exp) (from_ : List Bytes) (to_ : List Bytes) (y_4 : Bytes) : St := { tmps := [.undef, .sl .str false from_, .sl .str false to_, .ptr 0 0, .undef, .undef, .ptr 1 0, .ptr 2 0, .undef, .undef, .undef, .undef, .undef, .undef, .undef, .undef, .undef, .undef, .undef, .undef, .undef, .undef, .undef, .undef, .undef, .undef, .undef, .undef, .undef, .undef, .undef, .undef, .undef, .undef, .undef, .undef, .undef, .undef, .undef, .undef, .undef], objs := [.box (cells .exp x), .box [.int .i64 0, .int .i64 0, .int .i64 0, .str ([] : Bytes), .str ([] : Bytes), .str ([] : Bytes), .own 3], .box [.int .i64 x.k, .int .i64 x.v.k, .int .i64 x.v.n, .str x.v.s, .str y_4, .str x.field, .sl .exp false x.l], .arr .exp false ([] : List Exp)] }
noncomputable def ref09_Rename_j0 (k : Nat) (x : Exp) (from_ : List Bytes) (to_ : List Bytes) (y_4 : Bytes) : Option (Exp × Unit) := aresume cx k 30 [.agg (cells .exp x), .sl .str false from_, .sl .str false to_] [] [1, 1, 1] [] (ref09_Rename_j0_st x from_ to_ y_4)
def ref09_Rename_l0_st (x : Exp) (from_ : List Bytes) (to_ : List Bytes) (y_4 : Bytes) : St := { tmps := [.undef, .sl .str false from_, .sl .str false to_, .ptr 0 0, .undef, .undef, .ptr 1 0, .ptr 2 0, .int .i64 0, .undef, .undef, .undef, .undef, .undef, .undef, .undef, .undef, .undef, .undef, .undef, .undef, .undef, .undef, .undef, .undef, .undef, .undef, .undef, .undef, .undef, .undef, .undef, .undef, .undef, .undef, .undef, .undef, .undef, .undef, .undef, .undef], objs := [.box (cells .exp x), .box [.int .i64 0, .int .i64 0, .int .i64 0, .str ([] : Bytes), .str ([] : Bytes), .str ([] : Bytes), .own 3], .box [.int .i64 x.k, .int .i64 x.v.k, .int .i64 x.v.n, .str x.v.s, .str y_4, .str x.field, .nils], .arr .exp false ([] : List Exp)] }
noncomputable def ref09_Rename_l0 (k : Nat) (n : Nat) (x : Exp) (from_ : List Bytes) (to_ : List Bytes) (y_4 : Bytes) : Option (Exp × Unit) := aresume cx k 30 [.agg (cells .exp x), .sl .str false from_, .sl .str false to_] [] [1, 1, 1, 1, 0, 1, 0] [n] (ref09_Rename_l0_st x from_ to_ y_4)
def ref09_Rename_l1_st (x : Exp) (from_ : List Bytes) (to_ : List Bytes) (y_4 : Bytes) (i : Int) (y_6 : List Exp) : St := { tmps := [.undef, .sl .str false from_, .sl .str false to_, .ptr 0 0, .undef, .undef, .ptr 1 0, .ptr 2 0, .int .i64 i, .undef, .undef, .undef, .undef, .undef, .undef, .undef, .undef, .undef, .undef, .undef, .undef, .undef, .undef, .undef, .undef, .undef, .undef, .undef, .undef, .undef, .undef, .undef, .undef, .undef, .undef, .undef, .undef, .undef, .undef, .undef, .undef], objs := [.box (cells .exp x), .box [.int .i64 0, .int .i64 0, .int .i64 0, .str ([] : Bytes), .str ([] : Bytes), .str ([] : Bytes), .own 3], .box [.int .i64 x.k, .int .i64 x.v.k, .int .i64 x.v.n, .str x.v.s, .str y_4, .str x.field, .own 4], .arr .exp false ([] : List Exp), .arr .exp false y_6] }
noncomputable def ref09_Rename_l1 (k : Nat) (n : Nat) (x : Exp) (from_ : List Bytes) (to_ : List Bytes) (y_4 : Bytes) (i : Int) (y_6 : List Exp) : Option (Exp × Unit) := aresume cx k 30 [.agg (cells .exp x), .sl .str false from_, .sl .str false to_] [] [1, 1, 1, 1, 0, 1, 0] [n] (ref09_Rename_l1_st x from_ to_ y_4 i y_6)
noncomputable def ref09_Same (k : Nat) (a : Exp) (b : Exp) : Option (Bool × Unit) := acall cx k 28 [.agg (cells .exp a), .agg (cells .exp b)] []
noncomputable def expr_Join (k : Nat) (k_ : Int) (l : List Exp) : Option (Exp × Unit) := acall cx k 31 [.int .i64 k_, .sl .exp false l] []
def expr_Join_l0_st (k_ : Int) (l : List Exp) (t14 : Int) (out : List Exp) : St := { tmps := [.int .i64 k_, .undef, .undef, .undef, .ptr 0 0, .own 1, .undef, .undef, .undef, .undef, .undef, .undef, .sl .exp false l, .int .i64 ((List.length l : Nat) : Int), .int .i64 t14, .undef, .undef, .undef, .undef, .undef, .undef, .undef, .undef, .undef, .undef, .undef, .undef, .undef, .undef, .undef, .undef, .undef, .undef, .undef, .undef, .undef, .undef, .undef, .undef, .undef, .undef, .undef, .undef, .undef, .undef, .undef, .undef], objs := [.box [.int .i64 0, .int .i64 0, .int .i64 0, .str ([] : Bytes), .str ([] : Bytes), .str ([] : Bytes), .own 2], .arr .exp false out, .arr .exp false ([] : List Exp)] }
noncomputable def expr_Join_l0 (k : Nat) (n : Nat) (k_ : Int) (l : List Exp) (t14 : Int) (out : List Exp) : Option (Exp × Unit) := aresume cx k 31 [.int .i64 k_, .sl .exp false l] [] [1, 1, 1, 0, 1, 0] [n] (expr_Join_l0_st k_ l t14 out)
noncomputable def ref09_Join (k : Nat) (k_ : Int) (l : List Exp) : Option (Exp × Unit) := acall cx k 32 [.int .i64 k_, .sl .exp false l] []
def ref09_Join_j0_st (k_ : Int) (l : List Exp) : St := { tmps := [.int .i64 k_, .sl .exp false l, .undef, .undef, .ptr 0 0, .undef, .undef, .undef, .undef, .undef, .undef, .undef, .undef, .undef, .undef, .undef, .undef, .undef, .undef, .undef, .undef, .undef, .undef, .undef, .undef, .undef, .undef, .undef, .undef, .undef, .undef, .undef, .undef, .undef, .undef, .undef, .undef, .undef, .undef, .undef, .undef, .undef, .undef, .undef, .undef, .undef, .undef, .undef, .undef, .undef, .undef, .undef, .undef, .undef, .undef, .undef, .undef], objs := [.box [.int .i64 0, .int .i64 0, .int .i64 0, .str ([] : Bytes), .str ([] : Bytes), .str ([] : Bytes), .own 1], .arr .exp false ([] : List Exp)] }
noncomputable def ref09_Join_j0 (k : Nat) (k_ : Int) (l : List Exp) : Option (Exp × Unit) := aresume cx k 32 [.int .i64 k_, .sl .exp false l] [] [1, 1] [] (ref09_Join_j0_st k_ l)
def ref09_Join_l0_st (k_ : Int) (l : List Exp) (i : Int) (p : List Exp) : St := { tmps := [.int .i64 k_, .sl .exp false l, .undef, .undef, .ptr 0 0, .own 1, .int .i64 i, .undef, .undef, .undef, .undef, .undef, .undef, .undef, .undef, .undef, .undef, .undef, .undef, .undef, .undef, .undef, .undef, .undef, .undef, .undef, .undef, .undef, .undef, .undef, .undef, .undef, .undef, .undef, .undef, .undef, .undef, .undef, .undef, .undef, .undef, .undef, .undef, .undef, .undef, .undef, .undef, .undef, .undef, .undef, .undef, .undef, .undef, .undef, .undef, .undef, .undef], objs := [.box [.int .i64 0, .int .i64 0, .int .i64 0, .str ([] : Bytes), .str ([] : Bytes), .str ([] : Bytes), .own 2], .arr .exp false p, .arr .exp false ([] : List Exp)] }
noncomputable def ref09_Join_l0 (k : Nat) (n : Nat) (k_ : Int) (l : List Exp) (i : Int) (p : List Exp) : Option (Exp × Unit) := aresume cx k 32 [.int .i64 k_, .sl .exp false l] [] [1, 1, 1, 0, 1, 0] [n] (ref09_Join_l0_st k_ l i p)
noncomputable def ref09_Size (k : Nat) (x : Exp) : Option (Int × Unit) := acall cx k 46 [.agg (cells .exp x)] []
def ref09_Size_l0_st (x : Exp) (n_ : Int) (i : Int) : St := { tmps := [.undef, .ptr 0 0, .undef, .int .i64 n_, .int .i64 i, .undef, .undef, .undef, .undef, .undef, .undef, .undef, .undef, .undef, .undef, .undef, .undef, .undef, .undef, .undef, .undef], objs := [.box (cells .exp x)] }
noncomputable def ref09_Size_l0 (k : Nat) (n : Nat) (x : Exp) (n_ : Int) (i : Int) : Option (Int × Unit) := aresume cx k 46 [.agg (cells .exp x)] [] [1, 1, 0, 1, 0] [n] (ref09_Size_l0_st x n_ i)
noncomputable def expr_named (k : Nat) (v : Bytes) (from_ : List Bytes) (to_ : List Bytes) : Option (Bytes × Unit) := acall cx k 66 [.str v, .sl .str false from_, .sl .str false to_] []
def expr_named_j0_st (v : Bytes) (from_ : List Bytes) (to_ : List Bytes) (r : (Int × Unit)) (t18 : Bool) : St := { tmps := [.str v, .undef, .sl .str false to_, .undef, .undef, .undef, .undef, .int .i64 r.1, .undef, .undef, .undef, .undef, .undef, .undef, .undef, .undef, .undef, .undef, .bool t18, .undef, .undef, .undef, .undef, .undef], objs := [] }
noncomputable def expr_named_j0 (k : Nat) (v : Bytes) (from_ : List Bytes) (to_ : List Bytes) (r : (Int × Unit)) (t18 : Bool) : Option (Bytes × Unit) := aresume cx k 66 [.str v, .sl .str false from_, .sl .str false to_] [] [1, 0, 1, 1] [] (expr_named_j0_st v from_ to_ r t18)
noncomputable def ref09_Name (k : Nat) (v : Bytes) (from_ : List Bytes) (to_ : List Bytes) : Option (Bytes × Unit) := acall cx k 59 [.str v, .sl .str false from_, .sl .str false to_] []
def ref09_Name_l0_st (v : Bytes) (from_ : List Bytes) (to_ : List Bytes) (i : Int) : St := { tmps := [.str v, .sl .str false from_, .sl .str false to_, .undef, .undef, .undef, .undef, .int .i64 i, .undef, .undef, .undef, .undef, .undef, .undef, .undef, .undef, .undef, .undef, .undef, .undef, .undef, .undef, .undef, .undef, .undef, .undef, .undef, .undef, .undef, .undef], objs := [] }
noncomputable def ref09_Name_l0 (k : Nat) (n : Nat) (v : Bytes) (from_ : List Bytes) (to_ : List Bytes) (i : Int) : Option (Bytes × Unit) := aresume cx k 59 [.str v, .sl .str false from_, .sl .str false to_] [] [1, 0, 1, 0] [n] (ref09_Name_l0_st v from_ to_ i)
noncomputable def ref09_Order (k : Nat) (a : Exp) (b : Exp) : Option (Int × Unit) := acall cx k 49 [.agg (cells .exp a), .agg (cells .exp b)] []
def ref09_Order_l0_st (a : Exp) (b : Exp) (r : (Int × Unit)) (r1 : (Int × Unit)) (r2 : (Int × Unit)) (r3 : (Int × Unit)) (r4 : (Int × Unit)) (i : Int) : St := { tmps := [.undef, .undef, .ptr 0 0, .ptr 1 0, .undef, .own 2, .int .i64 i, .undef, .undef, .undef, .undef, .undef, .undef, .undef, .undef, .undef, .undef, .undef, .undef, .undef, .undef, .undef, .undef, .undef, .undef, .undef, .undef, .undef, .undef, .undef, .undef, .undef, .undef, .undef, .undef, .undef, .undef, .undef, .undef, .undef, .undef, .undef, .undef, .undef, .undef, .undef, .undef, .undef, .undef, .undef, .undef, .undef, .undef, .undef, .undef, .undef, .undef, .undef, .undef, .undef, .undef, .undef, .undef, .undef, .undef, .undef, .undef, .undef, .undef, .undef, .undef, .undef, .undef, .undef, .undef, .undef, .undef, .undef, .undef, .undef], objs := [.box (cells .exp a), .box (cells .exp b), .arr (.int .i64) false ([r.1, r1.1, r2.1, r3.1, r4.1] : List Int)] }
noncomputable def ref09_Order_l0 (k : Nat) (n : Nat) (a : Exp) (b : Exp) (r : (Int × Unit)) (r1 : (Int × Unit)) (r2 : (Int × Unit)) (r3 : (Int × Unit)) (r4 : (Int × Unit)) (i : Int) : Option (Int × Unit) := aresume cx k 49 [.agg (cells .exp a), .agg (cells .exp b)] [] [1, 1, 0, 1, 0] [n] (ref09_Order_l0_st a b r r1 r2 r3 r4 i)
def ref09_Order_l1_st (a : Exp) (b : Exp) (i : Int) : St := { tmps := [.undef, .undef, .ptr 0 0, .ptr 1 0, .undef, .undef, .undef, .int .i64 i, .undef, .undef, .undef, .undef, .undef, .undef, .undef, .undef, .undef, .undef, .undef, .undef, .undef, .undef, .undef, .undef, .undef, .undef, .undef, .undef, .undef, .undef, .undef, .undef, .undef, .undef, .undef, .undef, .undef, .undef, .undef, .undef, .undef, .undef, .undef, .undef, .undef, .undef, .undef, .undef, .undef, .undef, .undef, .undef, .undef, .undef, .undef, .undef, .undef, .undef, .undef, .undef, .undef, .undef, .undef, .undef, .undef, .undef, .undef, .undef, .undef, .undef, .undef, .undef, .undef, .undef, .undef, .undef, .undef, .undef, .undef, .undef], objs := [.box (cells .exp a), .box (cells .exp b)] }
noncomputable def ref09_Order_l1 (k : Nat) (n : Nat) (a : Exp) (b : Exp) (i : Int) : Option (Int × Unit) := aresume cx k 49 [.agg (cells .exp a), .agg (cells .exp b)] [] [1, 1, 1, 0, 1, 0] [n] (ref09_Order_l1_st a b i)
def ref09_Order_j0_st (a : Exp) (b : Exp) (i : Int) : St := { tmps := [.undef, .undef, .ptr 0 0, .ptr 1 0, .undef, .undef, .undef, .int .i64 i, .undef, .undef, .undef, .undef, .undef, .undef, .undef, .undef, .undef, .undef, .undef, .undef, .undef, .undef, .undef, .undef, .undef, .undef, .undef, .undef, .undef, .undef, .undef, .undef, .undef, .undef, .undef, .undef, .undef, .undef, .undef, .undef, .undef, .undef, .undef, .undef, .undef, .undef, .undef, .undef, .undef, .undef, .undef, .undef, .undef, .undef, .undef, .undef, .undef, .undef, .undef, .undef, .undef, .undef, .undef, .undef, .undef, .undef, .undef, .undef, .undef, .undef, .undef, .undef, .undef, .undef, .undef, .undef, .undef, .undef, .undef, .undef], objs := [.box (cells .exp a), .box (cells .exp b)] }
noncomputable def ref09_Order_j0 (k : Nat) (r0 : Nat) (a : Exp) (b : Exp) (i : Int) : Option (Int × Unit) := aresume cx k 49 [.agg (cells .exp a), .agg (cells .exp b)] [] [1, 1, 1, 0, 1, 0, 0, 1] [r0] (ref09_Order_j0_st a b i)
noncomputable def expr_isRow (k : Nat) (k_ : Int) : Option (Bool × Unit) := acall cx k 67 [.int .i64 k_] []
noncomputable def value_Bool (k : Nat) (b : Bool) : Option (Val × Unit) := acall cx k 68 [.bool b] []
noncomputable def ref06_Bool (k : Nat) (b : Bool) : Option (Val × Unit) := acall cx k 69 [.bool b] []
noncomputable def slices_Index_string (k : Nat) (s : List Bytes) (v : Bytes) : Option (Int × Unit) := acall cx k 58 [.sl .str false s, .str v] []
def slices_Index_string_l0_st (s : List Bytes) (v : Bytes) (t8 : Int) : St := { tmps := [.sl .str false s, .str v, .undef, .undef, .undef, .undef, .undef, .int .i64 ((List.length s : Nat) : Int), .int .i64 t8, .undef, .undef, .undef, .undef, .undef, .undef, .undef, .undef, .undef, .undef], objs := [] }
noncomputable def slices_Index_string_l0 (k : Nat) (n : Nat) (s : List Bytes) (v : Bytes) (t8 : Int) : Option (Int × Unit) := aresume cx k 58 [.sl .str false s, .str v] [] [1, 0, 1, 0] [n] (slices_Index_string_l0_st s v t8)
noncomputable def ref09_Number (k : Nat) (a : Int) (b : Int) : Option (Int × Unit) := acall cx k 61 [.int .i64 a, .int .i64 b] []
noncomputable def ref06_Order (k : Nat) (a : Val) (b : Val) : Option (Int × Unit) := acall cx k 81 [.agg (cells .val a), .agg (cells .val b)] []
noncomputable def ref09_compare (k : Nat) (a : Bytes) (b : Bytes) : Option (Int × Unit) := acall cx k 82 [.str a, .str b] []
theorem law09_ExprMakes_seg (k : Nat) (x : Exp) (from_ : List Bytes) (to_ : List Bytes) (k_ : Int) (l : List Exp) (C : List Nat → List Nat → St → Option (Bool × Unit)) : @Eq (Option (Bool × Unit)) (scall cx k 6 [.agg (cells .exp x), .sl .str false from_, .sl .str false to_, .int .i64 k_, .sl .exp false l] [] C) (((law09_light k x).bind fun r => (bif ((!r.1) == false) then (bif decide (((List.length l : Nat) : Int) > 30) then ((law09_awake k).bind fun r1 => some (r1.1, ())) else C [1, 1] [] (law09_ExprMakes_j0_st x from_ to_ k_ l)) else ((law09_awake k).bind fun r1 => some (r1.1, ()))))) := by kernel_rfl
theorem law09_ExprMakes_eq (k : Nat) (x : Exp) (from_ : List Bytes) (to_ : List Bytes) (k_ : Int) (l : List Exp) : law09_ExprMakes (k+1) x from_ to_ k_ l = ((law09_light k x).bind fun r => (bif ((!r.1) == false) then (bif decide (((List.length l : Nat) : Int) > 30) then ((law09_awake k).bind fun r1 => some (r1.1, ())) else law09_ExprMakes_j0 k x from_ to_ k_ l) else ((law09_awake k).bind fun r1 => some (r1.1, ())))) := (acall_eq k 6 [.agg (cells .exp x), .sl .str false from_, .sl .str false to_, .int .i64 k_, .sl .exp false l] []).trans (law09_ExprMakes_seg k x from_ to_ k_ l _)
theorem law09_ExprMakes_j0_seg (k : Nat) (x : Exp) (from_ : List Bytes) (to_ : List Bytes) (k_ : Int) (l : List Exp) (C : List Nat → List Nat → St → Option (Bool × Unit)) : @Eq (Option (Bool × Unit)) (sresume cx k 6 [.agg (cells .exp x), .sl .str false from_, .sl .str false to_, .int .i64 k_, .sl .exp false l] [] [1, 1] [] (law09_ExprMakes_j0_st x from_ to_ k_ l) C) (C [1, 1, 0, 1, 0] [k] (law09_ExprMakes_l0_st x from_ to_ k_ l 0)) := by kernel_rfl
theorem law09_ExprMakes_j0_eq (k : Nat) (x : Exp) (from_ : List Bytes) (to_ : List Bytes) (k_ : Int) (l : List Exp) : law09_ExprMakes_j0 k x from_ to_ k_ l = law09_ExprMakes_l0 k k x from_ to_ k_ l 0 := (aresume_eq (cx := cx) k 6 [.agg (cells .exp x), .sl .str false from_, .sl .str false to_, .int .i64 k_, .sl .exp false l] [] [1, 1] [] (law09_ExprMakes_j0_st x from_ to_ k_ l)).trans (law09_ExprMakes_j0_seg k x from_ to_ k_ l _)
theorem law09_ExprMakes_l0_seg (k : Nat) (n : Nat) (x : Exp) (from_ : List Bytes) (to_ : List Bytes) (k_ : Int) (l : List Exp) (i : Int) (C : List Nat → List Nat → St → Option (Bool × Unit)) : @Eq (Option (Bool × Unit)) (sresume cx k 6 [.agg (cells .exp x), .sl .str false from_, .sl .str false to_, .int .i64 k_, .sl .exp false l] [] [1, 1, 0, 1, 0] [n+1] (law09_ExprMakes_l0_st x from_ to_ k_ l i) C) ((bif decide (i < ((List.length l : Nat) : Int)) then ((idx l i).bind fun d => ((law09_light k d).bind fun r => (bif (!r.1) then ((law09_awake k).bind fun r1 => some (r1.1, ())) else C [1, 1, 0, 1, 0] [n] (law09_ExprMakes_l0_st x from_ to_ k_ l (IntKind.i64.wrap (i + 1)))))) else ((expr_Rename k x from_ to_).bind fun r => ((ref09_Rename k x from_ to_).bind fun r1 => ((ref09_Same k r.1 r1.1).bind fun r2 => (bif (r2.1 == true) then ((expr_Join k k_ l).bind fun r3 => ((ref09_Join k k_ l).bind fun r4 => ((ref09_Same k r3.1 r4.1).bind fun r5 => (bif (r5.1 == true) then ((law09_awake k).bind fun r6 => some (r6.1, ())) else some (false, ()))))) else some (false, ()))))))) := by kernel_rfl
theorem law09_ExprMakes_l0_eq (k : Nat) (n : Nat) (x : Exp) (from_ : List Bytes) (to_ : List Bytes) (k_ : Int) (l : List Exp) (i : Int) : law09_ExprMakes_l0 k (n+1) x from_ to_ k_ l i = (bif decide (i < ((List.length l : Nat) : Int)) then ((idx l i).bind fun d => ((law09_light k d).bind fun r => (bif (!r.1) then ((law09_awake k).bind fun r1 => some (r1.1, ())) else law09_ExprMakes_l0 k n x from_ to_ k_ l (IntKind.i64.wrap (i + 1))))) else ((expr_Rename k x from_ to_).bind fun r => ((ref09_Rename k x from_ to_).bind fun r1 => ((ref09_Same k r.1 r1.1).bind fun r2 => (bif (r2.1 == true) then ((expr_Join k k_ l).bind fun r3 => ((ref09_Join k k_ l).bind fun r4 => ((ref09_Same k r3.1 r4.1).bind fun r5 => (bif (r5.1 == true) then ((law09_awake k).bind fun r6 => some (r6.1, ())) else some (false, ()))))) else some (false, ())))))) := (aresume_eq (cx := cx) k 6 [.agg (cells .exp x), .sl .str false from_, .sl .str false to_, .int .i64 k_, .sl .exp false l] [] [1, 1, 0, 1, 0] [n+1] (law09_ExprMakes_l0_st x from_ to_ k_ l i)).trans (law09_ExprMakes_l0_seg k n x from_ to_ k_ l i _)
theorem law09_light_seg (k : Nat) (x : Exp) (C : List Nat → List Nat → St → Option (Bool × Unit)) : @Eq (Option (Bool × Unit)) (scall cx k 26 [.agg (cells .exp x)] [] C) (((ref09_Size k x).bind fun r => some (decide (r.1 ≤ 400), ()))) := by kernel_rfl
theorem law09_light_eq (k : Nat) (x : Exp) : law09_light (k+1) x = ((ref09_Size k x).bind fun r => some (decide (r.1 ≤ 400), ())) := (acall_eq k 26 [.agg (cells .exp x)] []).trans (law09_light_seg k x _)
theorem expr_Rename_seg (k : Nat) (x : Exp) (from_ : List Bytes) (to_ : List Bytes) (C : List Nat → List Nat → St → Option (Exp × Unit)) : @Eq (Option (Exp × Unit)) (scall cx k 29 [.agg (cells .exp x), .sl .str false from_, .sl .str false to_] [] C) ((bif (x.k == 2) then ((expr_named k x.var from_ to_).bind fun r => C [1, 1] [] (expr_Rename_j0_st x from_ to_ r.1)) else C [1, 1] [] (expr_Rename_j0_st x from_ to_ x.var))) := by kernel_rfl
theorem expr_Rename_eq (k : Nat) (x : Exp) (from_ : List Bytes) (to_ : List Bytes) : expr_Rename (k+1) x from_ to_ = (bif (x.k == 2) then ((expr_named k x.var from_ to_).bind fun r => expr_Rename_j0 k x from_ to_ r.1) else expr_Rename_j0 k x from_ to_ x.var) := (acall_eq k 29 [.agg (cells .exp x), .sl .str false from_, .sl .str false to_] []).trans (expr_Rename_seg k x from_ to_ _)
theorem expr_Rename_j0_seg (k : Nat) (x : Exp) (from_ : List Bytes) (to_ : List Bytes) (x_4 : Bytes) (C : List Nat → List Nat → St → Option (Exp × Unit)) : @Eq (Option (Exp × Unit)) (sresume cx k 29 [.agg (cells .exp x), .sl .str false from_, .sl .str false to_] [] [1, 1] [] (expr_Rename_j0_st x from_ to_ x_4) C) (C [1, 1, 1, 0, 1, 0] [k] (expr_Rename_l0_st x from_ to_ x_4 0 ([] : List Exp))) := by kernel_rfl
theorem expr_Rename_j0_eq (k : Nat) (x : Exp) (from_ : List Bytes) (to_ : List Bytes) (x_4 : Bytes) : expr_Rename_j0 k x from_ to_ x_4 = expr_Rename_l0 k k x from_ to_ x_4 0 ([] : List Exp) := (aresume_eq (cx := cx) k 29 [.agg (cells .exp x), .sl .str false from_, .sl .str false to_] [] [1, 1] [] (expr_Rename_j0_st x from_ to_ x_4)).trans (expr_Rename_j0_seg k x from_ to_ x_4 _)
theorem expr_Rename_l0_seg (k : Nat) (n : Nat) (x : Exp) (from_ : List Bytes) (to_ : List Bytes) (x_4 : Bytes) (t22 : Int) (l : List Exp) (C : List Nat → List Nat → St → Option (Exp × Unit)) : @Eq (Option (Exp × Unit)) (sresume cx k 29 [.agg (cells .exp x), .sl .str false from_, .sl .str false to_] [] [1, 1, 1, 0, 1, 0] [n+1] (expr_Rename_l0_st x from_ to_ x_4 t22 l) C) ((bif decide (t22 < ((List.length x.l : Nat) : Int)) then ((idx x.l t22).bind fun d => ((expr_Rename k d from_ to_).bind fun r => (bif decide ((List.length l + List.length ([(⟨r.1.k, r.1.v, r.1.var, r.1.field, r.1.l⟩ : Exp)] : List Exp)) * 96 ≤ 140737488355328) then C [1, 1, 1, 0, 1, 0] [n] (expr_Rename_l0_st x from_ to_ x_4 (IntKind.i64.wrap (t22 + 1)) (l ++ ([(⟨r.1.k, r.1.v, r.1.var, r.1.field, r.1.l⟩ : Exp)] : List Exp))) else none))) else some ((⟨x.k, x.v, x_4, x.field, l⟩ : Exp), ()))) := by kernel_rfl
theorem expr_Rename_l0_eq (k : Nat) (n : Nat) (x : Exp) (from_ : List Bytes) (to_ : List Bytes) (x_4 : Bytes) (t22 : Int) (l : List Exp) : expr_Rename_l0 k (n+1) x from_ to_ x_4 t22 l = (bif decide (t22 < ((List.length x.l : Nat) : Int)) then ((idx x.l t22).bind fun d => ((expr_Rename k d from_ to_).bind fun r => (bif decide ((List.length l + List.length ([(⟨r.1.k, r.1.v, r.1.var, r.1.field, r.1.l⟩ : Exp)] : List Exp)) * 96 ≤ 140737488355328) then expr_Rename_l0 k n x from_ to_ x_4 (IntKind.i64.wrap (t22 + 1)) (l ++ ([(⟨r.1.k, r.1.v, r.1.var, r.1.field, r.1.l⟩ : Exp)] : List Exp)) else none))) else some ((⟨x.k, x.v, x_4, x.field, l⟩ : Exp), ())) := (aresume_eq (cx := cx) k 29 [.agg (cells .exp x), .sl .str false from_, .sl .str false to_] [] [1, 1, 1, 0, 1, 0] [n+1] (expr_Rename_l0_st x from_ to_ x_4 t22 l)).trans (expr_Rename_l0_seg k n x from_ to_ x_4 t22 l _)
theorem ref09_Rename_seg (k : Nat) (x : Exp) (from_ : List Bytes) (to_ : List Bytes) (C : List Nat → List Nat → St → Option (Exp × Unit)) : @Eq (Option (Exp × Unit)) (scall cx k 30 [.agg (cells .exp x), .sl .str false from_, .sl .str false to_] [] C) ((bif (x.k == 2) then ((ref09_Name k x.var from_ to_).bind fun r => C [1, 1, 1] [] (ref09_Rename_j0_st x from_ to_ r.1)) else C [1, 1, 1] [] (ref09_Rename_j0_st x from_ to_ x.var))) := by kernel_rfl
theorem ref09_Rename_eq (k : Nat) (x : Exp) (from_ : List Bytes) (to_ : List Bytes) : ref09_Rename (k+1) x from_ to_ = (bif (x.k == 2) then ((ref09_Name k x.var from_ to_).bind fun r => ref09_Rename_j0 k x from_ to_ r.1) else ref09_Rename_j0 k x from_ to_ x.var) := (acall_eq k 30 [.agg (cells .exp x), .sl .str false from_, .sl .str false to_] []).trans (ref09_Rename_seg k x from_ to_ _)
theorem ref09_Rename_j0_seg (k : Nat) (x : Exp) (from_ : List Bytes) (to_ : List Bytes) (y_4 : Bytes) (C : List Nat → List Nat → St → Option (Exp × Unit)) : @Eq (Option (Exp × Unit)) (sresume cx k 30 [.agg (cells .exp x), .sl .str false from_, .sl .str false to_] [] [1, 1, 1] [] (ref09_Rename_j0_st x from_ to_ y_4) C) (C [1, 1, 1, 1, 0, 1, 0] [k] (ref09_Rename_l0_st x from_ to_ y_4)) := by kernel_rfl
theorem ref09_Rename_j0_eq (k : Nat) (x : Exp) (from_ : List Bytes) (to_ : List Bytes) (y_4 : Bytes) : ref09_Rename_j0 k x from_ to_ y_4 = ref09_Rename_l0 k k x from_ to_ y_4 := (aresume_eq (cx := cx) k 30 [.agg (cells .exp x), .sl .str false from_, .sl .str false to_] [] [1, 1, 1] [] (ref09_Rename_j0_st x from_ to_ y_4)).trans (ref09_Rename_j0_seg k x from_ to_ y_4 _)
theorem ref09_Rename_l0_seg (k : Nat) (n : Nat) (x : Exp) (from_ : List Bytes) (to_ : List Bytes) (y_4 : Bytes) (C : List Nat → List Nat → St → Option (Exp × Unit)) : @Eq (Option (Exp × Unit)) (sresume cx k 30 [.agg (cells .exp x), .sl .str false from_, .sl .str false to_] [] [1, 1, 1, 1, 0, 1, 0] [n+1] (ref09_Rename_l0_st x from_ to_ y_4) C) ((bif decide (0 < ((List.length x.l : Nat) : Int)) then ((idx x.l 0).bind fun d => ((ref09_Rename k d from_ to_).bind fun r => (bif decide (List.length ([(⟨r.1.k, r.1.v, r.1.var, r.1.field, r.1.l⟩ : Exp)] : List Exp) * 96 ≤ 140737488355328) then C [1, 1, 1, 1, 0, 1, 0] [n] (ref09_Rename_l1_st x from_ to_ y_4 1 ([(⟨r.1.k, r.1.v, r.1.var, r.1.field, r.1.l⟩ : Exp)] : List Exp)) else none))) else some ((⟨x.k, x.v, y_4, x.field, ([] : List Exp)⟩ : Exp), ()))) := by kernel_rfl
theorem ref09_Rename_l0_eq (k : Nat) (n : Nat) (x : Exp) (from_ : List Bytes) (to_ : List Bytes) (y_4 : Bytes) : ref09_Rename_l0 k (n+1) x from_ to_ y_4 = (bif decide (0 < ((List.length x.l : Nat) : Int)) then ((idx x.l 0).bind fun d => ((ref09_Rename k d from_ to_).bind fun r => (bif decide (List.length ([(⟨r.1.k, r.1.v, r.1.var, r.1.field, r.1.l⟩ : Exp)] : List Exp) * 96 ≤ 140737488355328) then ref09_Rename_l1 k n x from_ to_ y_4 1 ([(⟨r.1.k, r.1.v, r.1.var, r.1.field, r.1.l⟩ : Exp)] : List Exp) else none))) else some ((⟨x.k, x.v, y_4, x.field, ([] : List Exp)⟩ : Exp), ())) := (aresume_eq (cx := cx) k 30 [.agg (cells .exp x), .sl .str false from_, .sl .str false to_] [] [1, 1, 1, 1, 0, 1, 0] [n+1] (ref09_Rename_l0_st x from_ to_ y_4)).trans (ref09_Rename_l0_seg k n x from_ to_ y_4 _)
theorem ref09_Rename_l1_seg (k : Nat) (n : Nat) (x : Exp) (from_ : List Bytes) (to_ : List Bytes) (y_4 : Bytes) (i : Int) (y_6 : List Exp) (C : List Nat → List Nat → St → Option (Exp × Unit)) : @Eq (Option (Exp × Unit)) (sresume cx k 30 [.agg (cells .exp x), .sl .str false from_, .sl .str false to_] [] [1, 1, 1, 1, 0, 1, 0] [n+1] (ref09_Rename_l1_st x from_ to_ y_4 i y_6) C) ((bif decide (i < ((List.length x.l : Nat) : Int)) then ((idx x.l i).bind fun d => ((ref09_Rename k d from_ to_).bind fun r => (bif decide ((List.length y_6 + List.length ([(⟨r.1.k, r.1.v, r.1.var, r.1.field, r.1.l⟩ : Exp)] : List Exp)) * 96 ≤ 140737488355328) then C [1, 1, 1, 1, 0, 1, 0] [n] (ref09_Rename_l1_st x from_ to_ y_4 (IntKind.i64.wrap (i + 1)) (y_6 ++ ([(⟨r.1.k, r.1.v, r.1.var, r.1.field, r.1.l⟩ : Exp)] : List Exp))) else none))) else some ((⟨x.k, x.v, y_4, x.field, y_6⟩ : Exp), ()))) := by kernel_rfl
theorem ref09_Rename_l1_eq (k : Nat) (n : Nat) (x : Exp) (from_ : List Bytes) (to_ : List Bytes) (y_4 : Bytes) (i : Int) (y_6 : List Exp) : ref09_Rename_l1 k (n+1) x from_ to_ y_4 i y_6 = (bif decide (i < ((List.length x.l : Nat) : Int)) then ((idx x.l i).bind fun d => ((ref09_Rename k d from_ to_).bind fun r => (bif decide ((List.length y_6 + List.length ([(⟨r.1.k, r.1.v, r.1.var, r.1.field, r.1.l⟩ : Exp)] : List Exp)) * 96 ≤ 140737488355328) then ref09_Rename_l1 k n x from_ to_ y_4 (IntKind.i64.wrap (i + 1)) (y_6 ++ ([(⟨r.1.k, r.1.v, r.1.var, r.1.field, r.1.l⟩ : Exp)] : List Exp)) else none))) else some ((⟨x.k, x.v, y_4, x.field, y_6⟩ : Exp), ())) := (aresume_eq (cx := cx) k 30 [.agg (cells .exp x), .sl .str false from_, .sl .str false to_] [] [1, 1, 1, 1, 0, 1, 0] [n+1] (ref09_Rename_l1_st x from_ to_ y_4 i y_6)).trans (ref09_Rename_l1_seg k n x from_ to_ y_4 i y_6 _)
theorem ref09_Same_seg (k : Nat) (a : Exp) (b : Exp) (C : List Nat → List Nat → St → Option (Bool × Unit)) : @Eq (Option (Bool × Unit)) (scall cx k 28 [.agg (cells .exp a), .agg (cells .exp b)] [] C) (((ref09_Order k a b).bind fun r => some ((r.1 == 0), ()))) := by kernel_rfl
theorem ref09_Same_eq (k : Nat) (a : Exp) (b : Exp) : ref09_Same (k+1) a b = ((ref09_Order k a b).bind fun r => some ((r.1 == 0), ())) := (acall_eq k 28 [.agg (cells .exp a), .agg (cells .exp b)] []).trans (ref09_Same_seg k a b _)
theorem expr_Join_seg (k : Nat) (k_ : Int) (l : List Exp) (C : List Nat → List Nat → St → Option (Exp × Unit)) : @Eq (Option (Exp × Unit)) (scall cx k 31 [.int .i64 k_, .sl .exp false l] [] C) (((expr_isRow k k_).bind fun r => (bif (!r.1) then some ((⟨0, ⟨0, 0, ([] : Bytes)⟩, ([] : Bytes), ([] : Bytes), ([] : List Exp)⟩ : Exp), ()) else C [1, 1, 1, 0, 1, 0] [k] (expr_Join_l0_st k_ l 0 ([] : List Exp))))) := by kernel_rfl
theorem expr_Join_eq (k : Nat) (k_ : Int) (l : List Exp) : expr_Join (k+1) k_ l = ((expr_isRow k k_).bind fun r => (bif (!r.1) then some ((⟨0, ⟨0, 0, ([] : Bytes)⟩, ([] : Bytes), ([] : Bytes), ([] : List Exp)⟩ : Exp), ()) else expr_Join_l0 k k k_ l 0 ([] : List Exp))) := (acall_eq k 31 [.int .i64 k_, .sl .exp false l] []).trans (expr_Join_seg k k_ l _)
theorem expr_Join_l0_seg (k : Nat) (n : Nat) (k_ : Int) (l : List Exp) (t14 : Int) (out : List Exp) (C : List Nat → List Nat → St → Option (Exp × Unit)) : @Eq (Option (Exp × Unit)) (sresume cx k 31 [.int .i64 k_, .sl .exp false l] [] [1, 1, 1, 0, 1, 0] [n+1] (expr_Join_l0_st k_ l t14 out) C) ((bif decide (t14 < ((List.length l : Nat) : Int)) then ((idx l t14).bind fun d => (bif (d.k == k_) then (bif decide ((List.length out + List.length d.l) * 96 ≤ 140737488355328) then C [1, 1, 1, 0, 1, 0] [n] (expr_Join_l0_st k_ l (IntKind.i64.wrap (t14 + 1)) (out ++ d.l)) else none) else (bif decide ((List.length out + List.length ([(⟨d.k, d.v, d.var, d.field, d.l⟩ : Exp)] : List Exp)) * 96 ≤ 140737488355328) then C [1, 1, 1, 0, 1, 0] [n] (expr_Join_l0_st k_ l (IntKind.i64.wrap (t14 + 1)) (out ++ ([(⟨d.k, d.v, d.var, d.field, d.l⟩ : Exp)] : List Exp))) else none))) else (bif (((List.length out : Nat) : Int) == 0) then ((value_Bool k (k_ == 16)).bind fun r => some ((⟨1, r.1, ([] : Bytes), ([] : Bytes), ([] : List Exp)⟩ : Exp), ())) else (bif (((List.length out : Nat) : Int) == 1) then ((idx out 0).bind fun d => ((out[(Int.toNat 0)]?).bind fun d1 => some ((⟨d1.k, d1.v, d1.var, d1.field, d1.l⟩ : Exp), ()))) else some ((⟨k_, ⟨0, 0, ([] : Bytes)⟩, ([] : Bytes), ([] : Bytes), out⟩ : Exp), ()))))) := by kernel_rfl
theorem expr_Join_l0_eq (k : Nat) (n : Nat) (k_ : Int) (l : List Exp) (t14 : Int) (out : List Exp) : expr_Join_l0 k (n+1) k_ l t14 out = (bif decide (t14 < ((List.length l : Nat) : Int)) then ((idx l t14).bind fun d => (bif (d.k == k_) then (bif decide ((List.length out + List.length d.l) * 96 ≤ 140737488355328) then expr_Join_l0 k n k_ l (IntKind.i64.wrap (t14 + 1)) (out ++ d.l) else none) else (bif decide ((List.length out + List.length ([(⟨d.k, d.v, d.var, d.field, d.l⟩ : Exp)] : List Exp)) * 96 ≤ 140737488355328) then expr_Join_l0 k n k_ l (IntKind.i64.wrap (t14 + 1)) (out ++ ([(⟨d.k, d.v, d.var, d.field, d.l⟩ : Exp)] : List Exp)) else none))) else (bif (((List.length out : Nat) : Int) == 0) then ((value_Bool k (k_ == 16)).bind fun r => some ((⟨1, r.1, ([] : Bytes), ([] : Bytes), ([] : List Exp)⟩ : Exp), ())) else (bif (((List.length out : Nat) : Int) == 1) then ((idx out 0).bind fun d => ((out[(Int.toNat 0)]?).bind fun d1 => some ((⟨d1.k, d1.v, d1.var, d1.field, d1.l⟩ : Exp), ()))) else some ((⟨k_, ⟨0, 0, ([] : Bytes)⟩, ([] : Bytes), ([] : Bytes), out⟩ : Exp), ())))) := (aresume_eq (cx := cx) k 31 [.int .i64 k_, .sl .exp false l] [] [1, 1, 1, 0, 1, 0] [n+1] (expr_Join_l0_st k_ l t14 out)).trans (expr_Join_l0_seg k n k_ l t14 out _)
theorem ref09_Join_seg (k : Nat) (k_ : Int) (l : List Exp) (C : List Nat → List Nat → St → Option (Exp × Unit)) : @Eq (Option (Exp × Unit)) (scall cx k 32 [.int .i64 k_, .sl .exp false l] [] C) ((bif ((k_ != 16) == true) then (bif (k_ != 17) then some ((⟨0, ⟨0, 0, ([] : Bytes)⟩, ([] : Bytes), ([] : Bytes), ([] : List Exp)⟩ : Exp), ()) else C [1, 1] [] (ref09_Join_j0_st k_ l)) else C [1, 1] [] (ref09_Join_j0_st k_ l))) := by kernel_rfl
theorem ref09_Join_eq (k : Nat) (k_ : Int) (l : List Exp) : ref09_Join (k+1) k_ l = (bif ((k_ != 16) == true) then (bif (k_ != 17) then some ((⟨0, ⟨0, 0, ([] : Bytes)⟩, ([] : Bytes), ([] : Bytes), ([] : List Exp)⟩ : Exp), ()) else ref09_Join_j0 k k_ l) else ref09_Join_j0 k k_ l) := (acall_eq k 32 [.int .i64 k_, .sl .exp false l] []).trans (ref09_Join_seg k k_ l _)
theorem ref09_Join_j0_seg (k : Nat) (k_ : Int) (l : List Exp) (C : List Nat → List Nat → St → Option (Exp × Unit)) : @Eq (Option (Exp × Unit)) (sresume cx k 32 [.int .i64 k_, .sl .exp false l] [] [1, 1] [] (ref09_Join_j0_st k_ l) C) (C [1, 1, 1, 0, 1, 0] [k] (ref09_Join_l0_st k_ l 0 ([] : List Exp))) := by kernel_rfl
theorem ref09_Join_j0_eq (k : Nat) (k_ : Int) (l : List Exp) : ref09_Join_j0 k k_ l = ref09_Join_l0 k k k_ l 0 ([] : List Exp) := (aresume_eq (cx := cx) k 32 [.int .i64 k_, .sl .exp false l] [] [1, 1] [] (ref09_Join_j0_st k_ l)).trans (ref09_Join_j0_seg k k_ l _)
theorem ref09_Join_l0_seg (k : Nat) (n : Nat) (k_ : Int) (l : List Exp) (i : Int) (p : List Exp) (C : List Nat → List Nat → St → Option (Exp × Unit)) : @Eq (Option (Exp × Unit)) (sresume cx k 32 [.int .i64 k_, .sl .exp false l] [] [1, 1, 1, 0, 1, 0] [n+1] (ref09_Join_l0_st k_ l i p) C) ((bif decide (i < ((List.length l : Nat) : Int)) then ((idx l i).bind fun d => (bif (d.k == k_) then ((idx l i).bind fun d1 => (bif decide ((List.length p + List.length d1.l) * 96 ≤ 140737488355328) then C [1, 1, 1, 0, 1, 0] [n] (ref09_Join_l0_st k_ l (IntKind.i64.wrap (i + 1)) (p ++ d1.l)) else none)) else ((idx l i).bind fun d1 => (bif decide ((List.length p + List.length ([(⟨d1.k, d1.v, d1.var, d1.field, d1.l⟩ : Exp)] : List Exp)) * 96 ≤ 140737488355328) then C [1, 1, 1, 0, 1, 0] [n] (ref09_Join_l0_st k_ l (IntKind.i64.wrap (i + 1)) (p ++ ([(⟨d1.k, d1.v, d1.var, d1.field, d1.l⟩ : Exp)] : List Exp))) else none)))) else (bif (((List.length p : Nat) : Int) == 1) then ((idx p 0).bind fun d => ((p[(Int.toNat 0)]?).bind fun d1 => some ((⟨d1.k, d1.v, d1.var, d1.field, d1.l⟩ : Exp), ()))) else (bif (((List.length p : Nat) : Int) == 0) then ((ref06_Bool k (k_ == 16)).bind fun r => some ((⟨1, r.1, ([] : Bytes), ([] : Bytes), ([] : List Exp)⟩ : Exp), ())) else some ((⟨k_, ⟨0, 0, ([] : Bytes)⟩, ([] : Bytes), ([] : Bytes), p⟩ : Exp), ()))))) := by kernel_rfl
theorem ref09_Join_l0_eq (k : Nat) (n : Nat) (k_ : Int) (l : List Exp) (i : Int) (p : List Exp) : ref09_Join_l0 k (n+1) k_ l i p = (bif decide (i < ((List.length l : Nat) : Int)) then ((idx l i).bind fun d => (bif (d.k == k_) then ((idx l i).bind fun d1 => (bif decide ((List.length p + List.length d1.l) * 96 ≤ 140737488355328) then ref09_Join_l0 k n k_ l (IntKind.i64.wrap (i + 1)) (p ++ d1.l) else none)) else ((idx l i).bind fun d1 => (bif decide ((List.length p + List.length ([(⟨d1.k, d1.v, d1.var, d1.field, d1.l⟩ : Exp)] : List Exp)) * 96 ≤ 140737488355328) then ref09_Join_l0 k n k_ l (IntKind.i64.wrap (i + 1)) (p ++ ([(⟨d1.k, d1.v, d1.var, d1.field, d1.l⟩ : Exp)] : List Exp)) else none)))) else (bif (((List.length p : Nat) : Int) == 1) then ((idx p 0).bind fun d => ((p[(Int.toNat 0)]?).bind fun d1 => some ((⟨d1.k, d1.v, d1.var, d1.field, d1.l⟩ : Exp), ()))) else (bif (((List.length p : Nat) : Int) == 0) then ((ref06_Bool k (k_ == 16)).bind fun r => some ((⟨1, r.1, ([] : Bytes), ([] : Bytes), ([] : List Exp)⟩ : Exp), ())) else some ((⟨k_, ⟨0, 0, ([] : Bytes)⟩, ([] : Bytes), ([] : Bytes), p⟩ : Exp), ())))) := (aresume_eq (cx := cx) k 32 [.int .i64 k_, .sl .exp false l] [] [1, 1, 1, 0, 1, 0] [n+1] (ref09_Join_l0_st k_ l i p)).trans (ref09_Join_l0_seg k n k_ l i p _)
theorem ref09_Size_seg (k : Nat) (x : Exp) (C : List Nat → List Nat → St → Option (Int × Unit)) : @Eq (Option (Int × Unit)) (scall cx k 46 [.agg (cells .exp x)] [] C) (C [1, 1, 0, 1, 0] [k] (ref09_Size_l0_st x 1 0)) := by kernel_rfl
theorem ref09_Size_eq (k : Nat) (x : Exp) : ref09_Size (k+1) x = ref09_Size_l0 k k x 1 0 := (acall_eq k 46 [.agg (cells .exp x)] []).trans (ref09_Size_seg k x _)
theorem ref09_Size_l0_seg (k : Nat) (n : Nat) (x : Exp) (n_ : Int) (i : Int) (C : List Nat → List Nat → St → Option (Int × Unit)) : @Eq (Option (Int × Unit)) (sresume cx k 46 [.agg (cells .exp x)] [] [1, 1, 0, 1, 0] [n+1] (ref09_Size_l0_st x n_ i) C) ((bif decide (i < ((List.length x.l : Nat) : Int)) then ((idx x.l i).bind fun d => ((ref09_Size k d).bind fun r => C [1, 1, 0, 1, 0] [n] (ref09_Size_l0_st x (IntKind.i64.wrap (n_ + r.1)) (IntKind.i64.wrap (i + 1))))) else some (n_, ()))) := by kernel_rfl
theorem ref09_Size_l0_eq (k : Nat) (n : Nat) (x : Exp) (n_ : Int) (i : Int) : ref09_Size_l0 k (n+1) x n_ i = (bif decide (i < ((List.length x.l : Nat) : Int)) then ((idx x.l i).bind fun d => ((ref09_Size k d).bind fun r => ref09_Size_l0 k n x (IntKind.i64.wrap (n_ + r.1)) (IntKind.i64.wrap (i + 1)))) else some (n_, ())) := (aresume_eq (cx := cx) k 46 [.agg (cells .exp x)] [] [1, 1, 0, 1, 0] [n+1] (ref09_Size_l0_st x n_ i)).trans (ref09_Size_l0_seg k n x n_ i _)
theorem expr_named_seg (k : Nat) (v : Bytes) (from_ : List Bytes) (to_ : List Bytes) (C : List Nat → List Nat → St → Option (Bytes × Unit)) : @Eq (Option (Bytes × Unit)) (scall cx k 66 [.str v, .sl .str false from_, .sl .str false to_] [] C) (((slices_Index_string k from_ v).bind fun r => (bif (decide (r.1 ≥ 0) == true) then C [1, 0, 1, 1] [] (expr_named_j0_st v from_ to_ r (decide (r.1 < ((List.length to_ : Nat) : Int)))) else C [1, 0, 1, 1] [] (expr_named_j0_st v from_ to_ r false)))) := by kernel_rfl
theorem expr_named_eq (k : Nat) (v : Bytes) (from_ : List Bytes) (to_ : List Bytes) : expr_named (k+1) v from_ to_ = ((slices_Index_string k from_ v).bind fun r => (bif (decide (r.1 ≥ 0) == true) then expr_named_j0 k v from_ to_ r (decide (r.1 < ((List.length to_ : Nat) : Int))) else expr_named_j0 k v from_ to_ r false)) := (acall_eq k 66 [.str v, .sl .str false from_, .sl .str false to_] []).trans (expr_named_seg k v from_ to_ _)
theorem expr_named_j0_seg (k : Nat) (v : Bytes) (from_ : List Bytes) (to_ : List Bytes) (r : (Int × Unit)) (t18 : Bool) (C : List Nat → List Nat → St → Option (Bytes × Unit)) : @Eq (Option (Bytes × Unit)) (sresume cx k 66 [.str v, .sl .str false from_, .sl .str false to_] [] [1, 0, 1, 1] [] (expr_named_j0_st v from_ to_ r t18) C) ((bif t18 then ((idx to_ r.1).bind fun d => some (d, ())) else some (v, ()))) := by kernel_rfl
theorem expr_named_j0_eq (k : Nat) (v : Bytes) (from_ : List Bytes) (to_ : List Bytes) (r : (Int × Unit)) (t18 : Bool) : expr_named_j0 k v from_ to_ r t18 = (bif t18 then ((idx to_ r.1).bind fun d => some (d, ())) else some (v, ())) := (aresume_eq (cx := cx) k 66 [.str v, .sl .str false from_, .sl .str false to_] [] [1, 0, 1, 1] [] (expr_named_j0_st v from_ to_ r t18)).trans (expr_named_j0_seg k v from_ to_ r t18 _)
theorem ref09_Name_seg (k : Nat) (v : Bytes) (from_ : List Bytes) (to_ : List Bytes) (C : List Nat → List Nat → St → Option (Bytes × Unit)) : @Eq (Option (Bytes × Unit)) (scall cx k 59 [.str v, .sl .str false from_, .sl .str false to_] [] C) (C [1, 0, 1, 0] [k] (ref09_Name_l0_st v from_ to_ 0)) := by kernel_rfl
theorem ref09_Name_eq (k : Nat) (v : Bytes) (from_ : List Bytes) (to_ : List Bytes) : ref09_Name (k+1) v from_ to_ = ref09_Name_l0 k k v from_ to_ 0 := (acall_eq k 59 [.str v, .sl .str false from_, .sl .str false to_] []).trans (ref09_Name_seg k v from_ to_ _)
theorem ref09_Name_l0_seg (k : Nat) (n : Nat) (v : Bytes) (from_ : List Bytes) (to_ : List Bytes) (i : Int) (C : List Nat → List Nat → St → Option (Bytes × Unit)) : @Eq (Option (Bytes × Unit)) (sresume cx k 59 [.str v, .sl .str false from_, .sl .str false to_] [] [1, 0, 1, 0] [n+1] (ref09_Name_l0_st v from_ to_ i) C) ((bif decide (i < ((List.length from_ : Nat) : Int)) then ((idx from_ i).bind fun d => (bif (d == v) then (bif decide (i < ((List.length to_ : Nat) : Int)) then ((idx to_ i).bind fun d1 => some (d1, ())) else some (v, ())) else C [1, 0, 1, 0] [n] (ref09_Name_l0_st v from_ to_ (IntKind.i64.wrap (i + 1))))) else some (v, ()))) := by kernel_rfl
theorem ref09_Name_l0_eq (k : Nat) (n : Nat) (v : Bytes) (from_ : List Bytes) (to_ : List Bytes) (i : Int) : ref09_Name_l0 k (n+1) v from_ to_ i = (bif decide (i < ((List.length from_ : Nat) : Int)) then ((idx from_ i).bind fun d => (bif (d == v) then (bif decide (i < ((List.length to_ : Nat) : Int)) then ((idx to_ i).bind fun d1 => some (d1, ())) else some (v, ())) else ref09_Name_l0 k n v from_ to_ (IntKind.i64.wrap (i + 1)))) else some (v, ())) := (aresume_eq (cx := cx) k 59 [.str v, .sl .str false from_, .sl .str false to_] [] [1, 0, 1, 0] [n+1] (ref09_Name_l0_st v from_ to_ i)).trans (ref09_Name_l0_seg k n v from_ to_ i _)
theorem ref09_Order_seg (k : Nat) (a : Exp) (b : Exp) (C : List Nat → List Nat → St → Option (Int × Unit)) : @Eq (Option (Int × Unit)) (scall cx k 49 [.agg (cells .exp a), .agg (cells .exp b)] [] C) (((ref09_Number k a.k b.k).bind fun r => ((ref06_Order k a.v b.v).bind fun r1 => ((ref09_compare k a.var b.var).bind fun r2 => ((ref09_compare k a.field b.field).bind fun r3 => ((ref09_Number k ((List.length a.l : Nat) : Int) ((List.length b.l : Nat) : Int)).bind fun r4 => C [1, 1, 0, 1, 0] [k] (ref09_Order_l0_st a b r r1 r2 r3 r4 0))))))) := by kernel_rfl
theorem ref09_Order_eq (k : Nat) (a : Exp) (b : Exp) : ref09_Order (k+1) a b = ((ref09_Number k a.k b.k).bind fun r => ((ref06_Order k a.v b.v).bind fun r1 => ((ref09_compare k a.var b.var).bind fun r2 => ((ref09_compare k a.field b.field).bind fun r3 => ((ref09_Number k ((List.length a.l : Nat) : Int) ((List.length b.l : Nat) : Int)).bind fun r4 => ref09_Order_l0 k k a b r r1 r2 r3 r4 0))))) := (acall_eq k 49 [.agg (cells .exp a), .agg (cells .exp b)] []).trans (ref09_Order_seg k a b _)
theorem ref09_Order_l0_seg (k : Nat) (n : Nat) (a : Exp) (b : Exp) (r : (Int × Unit)) (r1 : (Int × Unit)) (r2 : (Int × Unit)) (r3 : (Int × Unit)) (r4 : (Int × Unit)) (i : Int) (C : List Nat → List Nat → St → Option (Int × Unit)) : @Eq (Option (Int × Unit)) (sresume cx k 49 [.agg (cells .exp a), .agg (cells .exp b)] [] [1, 1, 0, 1, 0] [n+1] (ref09_Order_l0_st a b r r1 r2 r3 r4 i) C) ((bif decide (i < 5) then ((idx ([r.1, r1.1, r2.1, r3.1, r4.1] : List Int) i).bind fun d => ((([r.1, r1.1, r2.1, r3.1, r4.1] : List Int)[(Int.toNat i)]?).bind fun d1 => (bif (d1 != 0) then ((idx ([r.1, r1.1, r2.1, r3.1, r4.1] : List Int) i).bind fun d2 => ((([r.1, r1.1, r2.1, r3.1, r4.1] : List Int)[(Int.toNat i)]?).bind fun d3 => some (d3, ()))) else C [1, 1, 0, 1, 0] [n] (ref09_Order_l0_st a b r r1 r2 r3 r4 (IntKind.i64.wrap (i + 1)))))) else C [1, 1, 1, 0, 1, 0] [k] (ref09_Order_l1_st a b 0))) := by kernel_rfl
theorem ref09_Order_l0_eq (k : Nat) (n : Nat) (a : Exp) (b : Exp) (r : (Int × Unit)) (r1 : (Int × Unit)) (r2 : (Int × Unit)) (r3 : (Int × Unit)) (r4 : (Int × Unit)) (i : Int) : ref09_Order_l0 k (n+1) a b r r1 r2 r3 r4 i = (bif decide (i < 5) then ((idx ([r.1, r1.1, r2.1, r3.1, r4.1] : List Int) i).bind fun d => ((([r.1, r1.1, r2.1, r3.1, r4.1] : List Int)[(Int.toNat i)]?).bind fun d1 => (bif (d1 != 0) then ((idx ([r.1, r1.1, r2.1, r3.1, r4.1] : List Int) i).bind fun d2 => ((([r.1, r1.1, r2.1, r3.1, r4.1] : List Int)[(Int.toNat i)]?).bind fun d3 => some (d3, ()))) else ref09_Order_l0 k n a b r r1 r2 r3 r4 (IntKind.i64.wrap (i + 1))))) else ref09_Order_l1 k k a b 0) := (aresume_eq (cx := cx) k 49 [.agg (cells .exp a), .agg (cells .exp b)] [] [1, 1, 0, 1, 0] [n+1] (ref09_Order_l0_st a b r r1 r2 r3 r4 i)).trans (ref09_Order_l0_seg k n a b r r1 r2 r3 r4 i _)
theorem ref09_Order_l1_seg (k : Nat) (n : Nat) (a : Exp) (b : Exp) (i : Int) (C : List Nat → List Nat → St → Option (Int × Unit)) : @Eq (Option (Int × Unit)) (sresume cx k 49 [.agg (cells .exp a), .agg (cells .exp b)] [] [1, 1, 1, 0, 1, 0] [n+1] (ref09_Order_l1_st a b i) C) ((bif (decide (i < ((List.length a.l : Nat) : Int)) == true) then (bif decide (i < ((List.length b.l : Nat) : Int)) then C [1, 1, 1, 0, 1, 0, 0, 1] [n] (ref09_Order_j0_st a b i) else some (0, ())) else some (0, ()))) := by kernel_rfl
theorem ref09_Order_l1_eq (k : Nat) (n : Nat) (a : Exp) (b : Exp) (i : Int) : ref09_Order_l1 k (n+1) a b i = (bif (decide (i < ((List.length a.l : Nat) : Int)) == true) then (bif decide (i < ((List.length b.l : Nat) : Int)) then ref09_Order_j0 k n a b i else some (0, ())) else some (0, ())) := (aresume_eq (cx := cx) k 49 [.agg (cells .exp a), .agg (cells .exp b)] [] [1, 1, 1, 0, 1, 0] [n+1] (ref09_Order_l1_st a b i)).trans (ref09_Order_l1_seg k n a b i _)
theorem ref09_Order_j0_seg (k : Nat) (r0 : Nat) (a : Exp) (b : Exp) (i : Int) (C : List Nat → List Nat → St → Option (Int × Unit)) : @Eq (Option (Int × Unit)) (sresume cx k 49 [.agg (cells .exp a), .agg (cells .exp b)] [] [1, 1, 1, 0, 1, 0, 0, 1] [r0] (ref09_Order_j0_st a b i) C) (((idx a.l i).bind fun d => ((idx b.l i).bind fun d1 => ((ref09_Order k d d1).bind fun r => (bif (r.1 != 0) then some (r.1, ()) else C [1, 1, 1, 0, 1, 0] [r0] (ref09_Order_l1_st a b (IntKind.i64.wrap (i + 1)))))))) := by kernel_rfl
theorem ref09_Order_j0_eq (k : Nat) (r0 : Nat) (a : Exp) (b : Exp) (i : Int) : ref09_Order_j0 k r0 a b i = ((idx a.l i).bind fun d => ((idx b.l i).bind fun d1 => ((ref09_Order k d d1).bind fun r => (bif (r.1 != 0) then some (r.1, ()) else ref09_Order_l1 k r0 a b (IntKind.i64.wrap (i + 1)))))) := (aresume_eq (cx := cx) k 49 [.agg (cells .exp a), .agg (cells .exp b)] [] [1, 1, 1, 0, 1, 0, 0, 1] [r0] (ref09_Order_j0_st a b i)).trans (ref09_Order_j0_seg k r0 a b i _)
theorem expr_isRow_seg (k : Nat) (k_ : Int) (C : List Nat → List Nat → St → Option (Bool × Unit)) : @Eq (Option (Bool × Unit)) (scall cx k 67 [.int .i64 k_] [] C) ((bif ((k_ == 16) == false) then some ((k_ == 17), ()) else some (true, ()))) := by kernel_rfl
theorem expr_isRow_eq (k : Nat) (k_ : Int) : expr_isRow (k+1) k_ = (bif ((k_ == 16) == false) then some ((k_ == 17), ()) else some (true, ())) := (acall_eq k 67 [.int .i64 k_] []).trans (expr_isRow_seg k k_ _)
theorem value_Bool_seg (k : Nat) (b : Bool) (C : List Nat → List Nat → St → Option (Val × Unit)) : @Eq (Option (Val × Unit)) (scall cx k 68 [.bool b] [] C) ((bif b then some ((⟨1, 1, ([] : Bytes)⟩ : Val), ()) else some ((⟨1, 0, ([] : Bytes)⟩ : Val), ()))) := by kernel_rfl
theorem value_Bool_eq (k : Nat) (b : Bool) : value_Bool (k+1) b = (bif b then some ((⟨1, 1, ([] : Bytes)⟩ : Val), ()) else some ((⟨1, 0, ([] : Bytes)⟩ : Val), ())) := (acall_eq k 68 [.bool b] []).trans (value_Bool_seg k b _)
theorem ref06_Bool_seg (k : Nat) (b : Bool) (C : List Nat → List Nat → St → Option (Val × Unit)) : @Eq (Option (Val × Unit)) (scall cx k 69 [.bool b] [] C) ((bif b then some ((⟨1, 1, ([] : Bytes)⟩ : Val), ()) else some ((⟨1, 0, ([] : Bytes)⟩ : Val), ()))) := by kernel_rfl
theorem ref06_Bool_eq (k : Nat) (b : Bool) : ref06_Bool (k+1) b = (bif b then some ((⟨1, 1, ([] : Bytes)⟩ : Val), ()) else some ((⟨1, 0, ([] : Bytes)⟩ : Val), ())) := (acall_eq k 69 [.bool b] []).trans (ref06_Bool_seg k b _)
theorem slices_Index_string_seg (k : Nat) (s : List Bytes) (v : Bytes) (C : List Nat → List Nat → St → Option (Int × Unit)) : @Eq (Option (Int × Unit)) (scall cx k 58 [.sl .str false s, .str v] [] C) (C [1, 0, 1, 0] [k] (slices_Index_string_l0_st s v 0)) := by kernel_rfl
theorem slices_Index_string_eq (k : Nat) (s : List Bytes) (v : Bytes) : slices_Index_string (k+1) s v = slices_Index_string_l0 k k s v 0 := (acall_eq k 58 [.sl .str false s, .str v] []).trans (slices_Index_string_seg k s v _)
theorem slices_Index_string_l0_seg (k : Nat) (n : Nat) (s : List Bytes) (v : Bytes) (t8 : Int) (C : List Nat → List Nat → St → Option (Int × Unit)) : @Eq (Option (Int × Unit)) (sresume cx k 58 [.sl .str false s, .str v] [] [1, 0, 1, 0] [n+1] (slices_Index_string_l0_st s v t8) C) ((bif decide (t8 < ((List.length s : Nat) : Int)) then ((idx s t8).bind fun d => (bif (v == d) then some (t8, ()) else C [1, 0, 1, 0] [n] (slices_Index_string_l0_st s v (IntKind.i64.wrap (t8 + 1))))) else some ((-1), ()))) := by kernel_rfl
theorem slices_Index_string_l0_eq (k : Nat) (n : Nat) (s : List Bytes) (v : Bytes) (t8 : Int) : slices_Index_string_l0 k (n+1) s v t8 = (bif decide (t8 < ((List.length s : Nat) : Int)) then ((idx s t8).bind fun d => (bif (v == d) then some (t8, ()) else slices_Index_string_l0 k n s v (IntKind.i64.wrap (t8 + 1)))) else some ((-1), ())) := (aresume_eq (cx := cx) k 58 [.sl .str false s, .str v] [] [1, 0, 1, 0] [n+1] (slices_Index_string_l0_st s v t8)).trans (slices_Index_string_l0_seg k n s v t8 _)
theorem ref09_Number_seg (k : Nat) (a : Int) (b : Int) (C : List Nat → List Nat → St → Option (Int × Unit)) : @Eq (Option (Int × Unit)) (scall cx k 61 [.int .i64 a, .int .i64 b] [] C) ((bif (a == b) then some (0, ()) else (bif decide (a < b) then some ((-1), ()) else some (1, ())))) := by kernel_rfl
theorem ref09_Number_eq (k : Nat) (a : Int) (b : Int) : ref09_Number (k+1) a b = (bif (a == b) then some (0, ()) else (bif decide (a < b) then some ((-1), ()) else some (1, ()))) := (acall_eq k 61 [.int .i64 a, .int .i64 b] []).trans (ref09_Number_seg k a b _)
theorem ref06_Order_seg (k : Nat) (a : Val) (b : Val) (C : List Nat → List Nat → St → Option (Int × Unit)) : @Eq (Option (Int × Unit)) (scall cx k 81 [.agg (cells .val a), .agg (cells .val b)] [] C) ((bif ((a.k == b.k) && ((a.n == b.n) && (a.s == b.s))) then some (0, ()) else (bif (decide (a.k < b.k) == false) then (bif ((a.k == b.k) == true) then (bif (decide (a.n < b.n) == false) then (bif ((a.n == b.n) == true) then (bif (Op.bytesLess a.s b.s) then some ((-1), ()) else some (1, ())) else some (1, ())) else some ((-1), ())) else some (1, ())) else some ((-1), ())))) := by kernel_rfl
theorem ref06_Order_eq (k : Nat) (a : Val) (b : Val) : ref06_Order (k+1) a b = (bif ((a.k == b.k) && ((a.n == b.n) && (a.s == b.s))) then some (0, ()) else (bif (decide (a.k < b.k) == false) then (bif ((a.k == b.k) == true) then (bif (decide (a.n < b.n) == false) then (bif ((a.n == b.n) == true) then (bif (Op.bytesLess a.s b.s) then some ((-1), ()) else some (1, ())) else some (1, ())) else some ((-1), ())) else some (1, ())) else some ((-1), ()))) := (acall_eq k 81 [.agg (cells .val a), .agg (cells .val b)] []).trans (ref06_Order_seg k a b _)
theorem ref09_compare_seg (k : Nat) (a : Bytes) (b : Bytes) (C : List Nat → List Nat → St → Option (Int × Unit)) : @Eq (Option (Int × Unit)) (scall cx k 82 [.str a, .str b] [] C) ((bif (a == b) then some (0, ()) else (bif (Op.bytesLess a b) then some ((-1), ()) else some (1, ())))) := by kernel_rfl
theorem ref09_compare_eq (k : Nat) (a : Bytes) (b : Bytes) : ref09_compare (k+1) a b = (bif (a == b) then some (0, ()) else (bif (Op.bytesLess a b) then some ((-1), ()) else some (1, ()))) := (acall_eq k 82 [.str a, .str b] []).trans (ref09_compare_seg k a b _)
theorem law09_ExprMakes_def : @law09_ExprMakes = fun k x from_ to_ k_ l => acall cx k 6 [.agg (cells .exp x), .sl .str false from_, .sl .str false to_, .int .i64 k_, .sl .exp false l] [] := rfl
attribute [irreducible] law09_ExprMakes law09_ExprMakes_j0_st law09_ExprMakes_j0 law09_ExprMakes_l0_st law09_ExprMakes_l0 law09_light law09_awake expr_Rename expr_Rename_j0_st expr_Rename_j0 expr_Rename_l0_st expr_Rename_l0 ref09_Rename ref09_Rename_j0_st ref09_Rename_j0 ref09_Rename_l0_st ref09_Rename_l0 ref09_Rename_l1_st ref09_Rename_l1 ref09_Same expr_Join expr_Join_l0_st expr_Join_l0 ref09_Join ref09_Join_j0_st ref09_Join_j0 ref09_Join_l0_st ref09_Join_l0 ref09_Size ref09_Size_l0_st ref09_Size_l0 expr_named expr_named_j0_st expr_named_j0 ref09_Name ref09_Name_l0_st ref09_Name_l0 ref09_Order ref09_Order_l0_st ref09_Order_l0 ref09_Order_l1_st ref09_Order_l1 ref09_Order_j0_st ref09_Order_j0 expr_isRow value_Bool ref06_Bool slices_Index_string slices_Index_string_l0_st slices_Index_string_l0 ref09_Number ref06_Order ref09_compare
end Go.Ev.HpEM
