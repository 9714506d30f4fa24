import Derived.Test.YtjbfemmnhnomaaaProg
import Derived.Test.YtjbfemmnhnomaaaHpEwG
import Derived.Test.YtjbfemmnhnomaaaHpEwR
import Derived.KernelRfl
set_option maxRecDepth 20000
set_option linter.unusedVariables false
namespace Go.Ev.HpOO
def kinds : List Kind := [.other,
  .fn,
  .int .i64,
  .int .i64,
  .bool,
  .int .u8,
  .int .u8,
  .st [(0, 2), (1, 3), (2, 4), (3, 6)] 4 [none, none, none, none] [(.int .i64 0), (.int .i64 0), (.bool false), (.int .u8 0)] true,
  .st [(0, 2), (1, 3), (2, 4), (3, 6)] 4 [none, none, none, none] [(.int .i64 0), (.int .i64 0), (.bool false), (.int .u8 0)] true,
  .str,
  .str,
  .str,
  .int .u64,
  .other,
  .other,
  .ptr 153,
  .ptr 156,
  .ptr 165,
  .st [(0, 17)] 1 [none] [.nilp] false,
  .st [(0, 17)] 1 [none] [.nilp] false,
  .other,
  .int .i32,
  .sl .pat 24 6 80,
  .st [(0, 3), (1, 9), (2, 9), (3, 3), (4, 3), (5, 22)] 6 [none, none, none, none, none, (some .pat)] [(.int .i64 0), (.str []), (.str []), (.int .i64 0), (.int .i64 0), .nils] false,
  .st [(0, 3), (1, 9), (2, 9), (3, 3), (4, 3), (5, 22)] 6 [none, none, none, none, none, (some .pat)] [(.int .i64 0), (.str []), (.str []), (.int .i64 0), (.int .i64 0), .nils] false,
  .sl .exp 43 7 96,
  .sl .itm 67 4 56,
  .st [(0, 24), (6, 25), (7, 9), (8, 3), (9, 2), (10, 26)] 11 [none, none, none, none, none, (some .pat), (some .exp), none, none, none, (some .itm)] [(.int .i64 0), (.str []), (.str []), (.int .i64 0), (.int .i64 0), .nils, .nils, (.str []), (.int .i64 0), (.int .i64 0), .nils] false,
  .st [(0, 24), (6, 25), (7, 9), (8, 3), (9, 2), (10, 26)] 11 [none, none, none, none, none, (some .pat), (some .exp), none, none, none, (some .itm)] [(.int .i64 0), (.str []), (.str []), (.int .i64 0), (.int .i64 0), .nils, .nils, (.str []), (.int .i64 0), (.int .i64 0), .nils] false,
  .sl .str 9 1 16,
  .fn,
  .fn,
  .fn,
  .fn,
  .fn,
  .fn,
  .fn,
  .fn,
  .fn,
  .fn,
  .st [(0, 3), (1, 2), (2, 9)] 3 [none, none, none] [(.int .i64 0), (.int .i64 0), (.str [])] true,
  .st [(0, 3), (1, 2), (2, 9)] 3 [none, none, none] [(.int .i64 0), (.int .i64 0), (.str [])] true,
  .st [(0, 3), (1, 41), (4, 9), (5, 9), (6, 25)] 7 [none, none, none, none, none, none, (some .exp)] [(.int .i64 0), (.int .i64 0), (.int .i64 0), (.str []), (.str []), (.str []), .nils] false,
  .st [(0, 3), (1, 41), (4, 9), (5, 9), (6, 25)] 7 [none, none, none, none, none, none, (some .exp)] [(.int .i64 0), (.int .i64 0), (.int .i64 0), (.str []), (.str []), (.str []), .nils] false,
  .fn,
  .fn,
  .fn,
  .fn,
  .fn,
  .fn,
  .fn,
  .fn,
  .fn,
  .fn,
  .fn,
  .fn,
  .fn,
  .fn,
  .int .i64,
  .fn,
  .fn,
  .fn,
  .fn,
  .fn,
  .fn,
  .fn,
  .st [(0, 9), (1, 3), (2, 9), (3, 9)] 4 [none, none, none, none] [(.str []), (.int .i64 0), (.str []), (.str [])] true,
  .st [(0, 9), (1, 3), (2, 9), (3, 9)] 4 [none, none, none, none] [(.str []), (.int .i64 0), (.str []), (.str [])] true,
  .fn,
  .fn,
  .fn,
  .fn,
  .sl (.int .i64) 3 1 8,
  .fn,
  .fn,
  .fn,
  .fn,
  .fn,
  .fn,
  .fn,
  .fn,
  .fn,
  .fn,
  .fn,
  .fn,
  .fn,
  .fn,
  .other,
  .fn,
  .fn,
  .fn,
  .st [(0, 28)] 11 [none, none, none, none, none, (some .pat), (some .exp), none, none, none, (some .itm)] [(.int .i64 0), (.str []), (.str []), (.int .i64 0), (.int .i64 0), .nils, .nils, (.str []), (.int .i64 0), (.int .i64 0), .nils] false,
  .st [(0, 28)] 11 [none, none, none, none, none, (some .pat), (some .exp), none, none, none, (some .itm)] [(.int .i64 0), (.str []), (.str []), (.int .i64 0), (.int .i64 0), .nils, .nils, (.str []), (.int .i64 0), (.int .i64 0), .nils] false,
  .fn,
  .fn,
  .fn,
  .fn,
  .fn,
  .fn,
  .fn,
  .fn,
  .fn,
  .int .u64,
  .fn,
  .fn,
  .fn,
  .fn,
  .fn,
  .st [(0, 24), (6, 3)] 7 [none, none, none, none, none, (some .pat), none] [(.int .i64 0), (.str []), (.str []), (.int .i64 0), (.int .i64 0), .nils, (.int .i64 0)] false,
  .st [(0, 24), (6, 3)] 7 [none, none, none, none, none, (some .pat), none] [(.int .i64 0), (.str []), (.str []), (.int .i64 0), (.int .i64 0), .nils, (.int .i64 0)] false,
  .fn,
  .fn,
  .mp .str .bool 9 4,
  .fn,
  .fn,
  .fn,
  .fn,
  .fn,
  .fn,
  .fn,
  .fn,
  .int .i64,
  .other,
  .fn,
  .fn,
  .fn,
  .fn,
  .other,
  .fn,
  .fn,
  .int .u32,
  .fn,
  .int .u64,
  .fn,
  .fn,
  .fn,
  .fn,
  .fn,
  .fn,
  .int .u64,
  .fn,
  .fn,
  .fn,
  .ptr 3,
  .fn,
  .fn,
  .fn,
  .fn,
  .ptr 139,
  .other,
  .fn,
  .fn,
  .st [(0, 17), (1, 17), (2, 17), (3, 9)] 4 [none, none, none, none] [.nilp, .nilp, .nilp, (.str [])] false,
  .st [(0, 17), (1, 17), (2, 17), (3, 9)] 4 [none, none, none, none] [.nilp, .nilp, .nilp, (.str [])] false,
  .other,
  .other,
  .other,
  .fn,
  .int .u8,
  .int .u8,
  .fn,
  .ptr 5,
  .int .i32,
  .int .i32,
  .st [(0, 12), (1, 12), (2, 130), (3, 158), (4, 5), (5, 5), (6, 159), (7, 160), (8, 161), (9, 162), (10, 163)] 11 [none, none, none, none, none, none, none, none, none, none, none] [(.int .u64 0), (.int .u64 0), (.int .u32 0), (.int .u8 0), (.int .u8 0), (.int .u8 0), (.int .u8 0), .nilf, .nilp, (.int .i32 0), (.int .i32 0)] false,
  .st [(0, 12), (1, 12), (2, 130), (3, 158), (4, 5), (5, 5), (6, 159), (7, 160), (8, 161), (9, 162), (10, 163)] 11 [none, none, none, none, none, none, none, none, none, none, none] [(.int .u64 0), (.int .u64 0), (.int .u32 0), (.int .u8 0), (.int .u8 0), (.int .u8 0), (.int .u8 0), .nilf, .nilp, (.int .i32 0), (.int .i32 0)] false,
  .other]
def res : List VSh := [.tup [],
  .tup [],
  .tup [],
  .one (.v .bool),
  .one (.v .bool),
  .one (.v .bool),
  .one (.v .bool),
  .one (.v .bool),
  .one (.v .bool),
  .one (.v .bool),
  .one (.v .bool),
  .one (.v .bool),
  .one (.v .bool),
  .one (.v .bool),
  .one (.v .bool),
  .one (.v .bool),
  .one (.v (.dat .qry)),
  .one (.v (.dat .qry)),
  .one (.v .bool),
  .one (.v .bool),
  .one (.v (.int .i64)),
  .one (.v (.int .i64)),
  .one (.v (.int .i64)),
  .one (.v (.int .i64)),
  .one (.v .bool),
  .one (.v (.dat .pat)),
  .one (.v .bool),
  .one (.v .bool),
  .one (.v .bool),
  .one (.v (.dat .exp)),
  .one (.v (.dat .exp)),
  .one (.v (.dat .exp)),
  .one (.v (.dat .exp)),
  .one (.v (.int .i64)),
  .one (.v .bool),
  .one (.v (.sl .pat)),
  .one (.v (.sl .pat)),
  .one (.v (.sl .pat)),
  .one (.v (.sl .pat)),
  .one (.v (.sl .exp)),
  .one (.v (.sl .exp)),
  .one (.v .bool),
  .one (.v (.sl .str)),
  .one (.v (.int .i64)),
  .one (.v (.int .i64)),
  .one (.v (.int .i64)),
  .one (.v (.int .i64)),
  .one (.v (.int .i64)),
  .one (.v (.int .i64)),
  .one (.v (.int .i64)),
  .one (.v .bool),
  .one (.v (.sl .str)),
  .one (.v (.sl .str)),
  .one (.v .bool),
  .one (.v (.int .i64)),
  .one (.v (.int .i64)),
  .one (.v (.sl .exp)),
  .one (.v (.dat .pat)),
  .one (.v (.int .i64)),
  .one (.v .str),
  .one (.v (.int .i64)),
  .one (.v (.int .i64)),
  .one (.v (.int .i64)),
  .one (.v (.int .i64)),
  .one (.v (.sl .str)),
  .one (.v (.sl .str)),
  .one (.v .str),
  .one (.v .bool),
  .one (.v (.dat .val)),
  .one (.v (.dat .val)),
  .one (.v (.int .i64)),
  .one (.v (.sl .pat)),
  .one (.v .bool),
  .one (.v .bool),
  .one (.v .bool),
  .one (.v (.sl .exp)),
  .one (.c .undef),
  .tup [],
  .one (.v (.sl .str)),
  .one (.v .bool),
  .one (.v .bool),
  .one (.v (.int .i64)),
  .one (.v (.int .i64)),
  .one (.v (.sl .str)),
  .tup [.v (.sl .str), .v (.sl .str), .v (.sl (.int .i64))],
  .one (.v .bool),
  .one (.v .bool),
  .one (.v (.int .i64)),
  .one (.v (.int .i64)),
  .one (.v (.int .i64)),
  .one (.v (.int .i64)),
  .one (.v (.sl .exp)),
  .one (.v .bool),
  .one (.v (.int .i64)),
  .one (.v (.int .i64)),
  .one (.v (.int .i64)),
  .one (.v (.int .i64)),
  .one (.v (.sl .pat)),
  .one (.v .bool),
  .one (.v (.int .i64)),
  .one (.v (.sl .exp)),
  .tup [],
  .one (.v .bool),
  .tup [],
  .one (.v (.int .i64)),
  .one (.v .bool),
  .one (.v .bool),
  .one (.v .bool),
  .one (.v .bool),
  .one (.v .bool),
  .one (.v .bool),
  .one (.v .bool),
  .one (.c .undef),
  .one (.v .bool),
  .one (.v (.int .i64)),
  .one (.v .bool),
  .one (.v .bool),
  .one (.v .bool),
  .one (.v .bool),
  .one (.v .bool),
  .one (.v .bool),
  .one (.v (.int .i64)),
  .one (.v .bool),
  .tup [],
  .one (.v .bool),
  .tup [],
  .tup [],
  .tup [],
  .tup [],
  .tup [.v (.int .i64), .v (.int .i64)],
  .tup [],
  .one (.v .bool),
  .one (.v .bool),
  .one (.v (.int .i64)),
  .tup [.v (.int .i64), .v .bool],
  .one (.v (.int .i64)),
  .one (.v (.int .i64)),
  .one (.v .bool),
  .one (.v .bool),
  .one (.v (.int .i64)),
  .one (.v .bool),
  .one (.v .bool),
  .tup [],
  .one (.v .bool),
  .one (.v .bool),
  .one (.v (.int .i64)),
  .one (.v .bool),
  .tup [],
  .tup [],
  .tup [],
  .one (.v (.int .u64)),
  .one (.v (.int .u64)),
  .one (.v (.int .i64)),
  .one (.v (.int .i64)),
  .one (.v .bool),
  .one (.v .bool),
  .one (.v .bool),
  .one (.v .bool),
  .tup [],
  .tup [],
  .tup [.v (.int .i64), .v (.int .i64)],
  .one (.v .str),
  .tup [],
  .one (.v .str),
  .tup [],
  .one (.v .str),
  .tup [],
  .one (.v .str),
  .tup [],
  .one (.v .str),
  .tup [],
  .one (.v .str),
  .tup [],
  .one (.v (.int .i64)),
  .one (.v .str),
  .tup [],
  .one (.v .str)]
def rty : Nat → List AVal → List AObj → List FSh
  | 76, _, _ => [⟨[.box [.v (.int .i64), .v (.int .i64), .v (.int .i64), .v .str, .v .str, .v .str, .v (.sl .exp)]], .one (.c (.clo 101 [0]))⟩]
  | 112, _, _ => [⟨[.box [.v (.int .i64), .v .str, .v .str, .v (.int .i64), .v (.int .i64), .v (.sl .pat)]], .one (.c (.clo 142 [0]))⟩]
  | f, _, objs => shapes res f objs
def mask : Nat → List Nat → Option (List Nat)
  | 5, [1, 1, 1, 1, 1] => some [3, 4, 5, 6, 11]
  | 18, [1, 1, 0, 1, 0] => some [0, 3, 4]
  | 18, [1, 1, 0, 1, 0, 0, 1] => some [0, 3, 4]
  | 20, [1, 1, 0, 1, 0] => some [3, 16, 17, 18]
  | 24, [1, 1] => some [2, 3]
  | 24, [1, 1, 0, 1, 0] => some [2, 3, 5]
  | 24, [1, 1, 0, 1, 0, 0, 1] => some [2, 3, 5]
  | 25, [1, 1, 0, 1] => some [1, 2, 3, 6, 7, 22]
  | 25, [1, 1, 1] => some [1, 2, 3, 6, 7]
  | 25, [1, 1, 1, 1, 0, 1, 0] => some [1, 2, 3, 6, 7, 8]
  | 55, [1, 1, 0, 1, 0] => some [1, 3, 4]
  | 59, [1, 0, 1, 0] => some [0, 1, 2, 7]
  | 63, [1, 0, 1, 0] => some [0, 1, 9, 10, 11]
  | 64, [1, 1, 0, 1, 0] => some [3, 10, 11, 12]
  | 93, [1, 1, 0, 1, 0] => some [3, 6, 7, 8]
  | _, _ => none
noncomputable def cx : Cx := { prog := Go.Proofs.Try.prog, kinds := kinds, rty := rty, mutp := fun _ _ => false, mask := mask }
noncomputable def law15_OrderOrder (k : Nat) (a : Pat) (b : Pat) (c : Pat) (from_ : List Bytes) (to_ : List Bytes) : Option (Bool × Unit) := acall cx k 5 [.agg (cells .pat a), .agg (cells .pat b), .agg (cells .pat c), .sl .str false from_, .sl .str false to_] []
def law15_OrderOrder_j0_st (a : Pat) (b : Pat) (c : Pat) (from_ : List Bytes) (to_ : List Bytes) (r1 : (Int × Unit)) : St := { tmps := [.undef, .undef, .undef, .sl .str false from_, .sl .str false to_, .ptr 0 0, .ptr 1 0, .undef, .undef, .undef, .undef, .int .i64 r1.1, .undef, .undef, .undef, .undef, .undef, .undef, .undef, .undef, .undef, .undef, .undef, .undef, .undef, .undef, .undef, .undef, .undef, .undef, .undef, .undef, .undef, .undef, .undef, .undef, .undef, .undef, .undef, .undef, .undef, .undef, .undef, .undef, .undef, .undef, .undef, .undef, .undef, .undef, .undef, .undef, .undef, .undef, .undef, .undef, .undef, .undef, .undef, .undef, .undef, .undef, .undef, .undef, .undef, .undef, .undef, .undef, .undef, .undef, .undef, .undef, .undef, .undef, .undef, .undef, .undef, .undef, .undef, .undef, .undef, .undef, .undef, .undef, .undef, .undef, .undef, .undef], objs := [.box (cells .pat a), .box (cells .pat b)] }
noncomputable def law15_OrderOrder_j0 (k : Nat) (a : Pat) (b : Pat) (c : Pat) (from_ : List Bytes) (to_ : List Bytes) (r1 : (Int × Unit)) : Option (Bool × Unit) := aresume cx k 5 [.agg (cells .pat a), .agg (cells .pat b), .agg (cells .pat c), .sl .str false from_, .sl .str false to_] [] [1, 1, 1, 1, 1] [] (law15_OrderOrder_j0_st a b c from_ to_ r1)
noncomputable def law15_light (k : Nat) (l : List Pat) : Option (Bool × Unit) := acall cx k 18 [.sl .pat false l] []
def law15_light_l0_st (l : List Pat) (n_ : Int) (i : Int) : St := { tmps := [.sl .pat false l, .undef, .undef, .int .i64 n_, .int .i64 i, .undef, .undef, .undef, .undef, .undef, .undef, .undef, .undef, .undef, .undef, .undef, .undef, .undef, .undef, .undef, .undef, .undef, .undef, .undef], objs := [] }
noncomputable def law15_light_l0 (k : Nat) (n : Nat) (l : List Pat) (n_ : Int) (i : Int) : Option (Bool × Unit) := aresume cx k 18 [.sl .pat false l] [] [1, 1, 0, 1, 0] [n] (law15_light_l0_st l n_ i)
def law15_light_j0_st (l : List Pat) (n_ : Int) (i : Int) : St := { tmps := [.sl .pat false l, .undef, .undef, .int .i64 n_, .int .i64 i, .undef, .undef, .undef, .undef, .undef, .undef, .undef, .undef, .undef, .undef, .undef, .undef, .undef, .undef, .undef, .undef, .undef, .undef, .undef], objs := [] }
noncomputable def law15_light_j0 (k : Nat) (r0 : Nat) (l : List Pat) (n_ : Int) (i : Int) : Option (Bool × Unit) := aresume cx k 18 [.sl .pat false l] [] [1, 1, 0, 1, 0, 0, 1] [r0] (law15_light_j0_st l n_ i)
noncomputable def law15_awake (k : Nat) : Option (Bool × Unit) := acall cx k 19 [] []
noncomputable def order_Whole (k : Nat) (a : Pat) (b : Pat) : Option (Int × Unit) := acall cx k 22 [.agg (cells .pat a), .agg (cells .pat b)] []
noncomputable def ref12_Same (k : Nat) (a : Pat) (b : Pat) : Option (Bool × Unit) := acall cx k 24 [.agg (cells .pat a), .agg (cells .pat b)] []
def ref12_Same_j0_st (a : Pat) (b : Pat) : St := { tmps := [.undef, .undef, .ptr 0 0, .ptr 1 0, .undef, .undef, .undef, .undef, .undef, .undef, .undef, .undef, .undef, .undef, .undef, .undef, .undef, .undef, .undef, .undef, .undef, .undef, .undef, .undef, .undef, .undef, .undef, .undef, .undef, .undef, .undef, .undef, .undef, .undef, .undef, .undef, .undef, .undef, .undef, .undef, .undef, .undef, .undef, .undef, .undef, .undef, .undef, .undef, .undef, .undef, .undef, .undef, .undef, .undef, .undef, .undef, .undef, .undef, .undef, .undef, .undef, .undef, .undef, .undef, .undef, .undef, .undef, .undef, .undef, .undef, .undef, .undef, .undef, .undef], objs := [.box (cells .pat a), .box (cells .pat b)] }
noncomputable def ref12_Same_j0 (k : Nat) (a : Pat) (b : Pat) : Option (Bool × Unit) := aresume cx k 24 [.agg (cells .pat a), .agg (cells .pat b)] [] [1, 1] [] (ref12_Same_j0_st a b)
def ref12_Same_l0_st (a : Pat) (b : Pat) (i : Int) : St := { tmps := [.undef, .undef, .ptr 0 0, .ptr 1 0, .undef, .int .i64 i, .undef, .undef, .undef, .undef, .undef, .undef, .undef, .undef, .undef, .undef, .undef, .undef, .undef, .undef, .undef, .undef, .undef, .undef, .undef, .undef, .undef, .undef, .undef, .undef, .undef, .undef, .undef, .undef, .undef, .undef, .undef, .undef, .undef, .undef, .undef, .undef, .undef, .undef, .undef, .undef, .undef, .undef, .undef, .undef, .undef, .undef, .undef, .undef, .undef, .undef, .undef, .undef, .undef, .undef, .undef, .undef, .undef, .undef, .undef, .undef, .undef, .undef, .undef, .undef, .undef, .undef, .undef, .undef], objs := [.box (cells .pat a), .box (cells .pat b)] }
noncomputable def ref12_Same_l0 (k : Nat) (n : Nat) (a : Pat) (b : Pat) (i : Int) : Option (Bool × Unit) := aresume cx k 24 [.agg (cells .pat a), .agg (cells .pat b)] [] [1, 1, 0, 1, 0] [n] (ref12_Same_l0_st a b i)
def ref12_Same_j1_st (a : Pat) (b : Pat) (i : Int) : St := { tmps := [.undef, .undef, .ptr 0 0, .ptr 1 0, .undef, .int .i64 i, .undef, .undef, .undef, .undef, .undef, .undef, .undef, .undef, .undef, .undef, .undef, .undef, .undef, .undef, .undef, .undef, .undef, .undef, .undef, .undef, .undef, .undef, .undef, .undef, .undef, .undef, .undef, .undef, .undef, .undef, .undef, .undef, .undef, .undef, .undef, .undef, .undef, .undef, .undef, .undef, .undef, .undef, .undef, .undef, .undef, .undef, .undef, .undef, .undef, .undef, .undef, .undef, .undef, .undef, .undef, .undef, .undef, .undef, .undef, .undef, .undef, .undef, .undef, .undef, .undef, .undef, .undef, .undef], objs := [.box (cells .pat a), .box (cells .pat b)] }
noncomputable def ref12_Same_j1 (k : Nat) (r0 : Nat) (a : Pat) (b : Pat) (i : Int) : Option (Bool × Unit) := aresume cx k 24 [.agg (cells .pat a), .agg (cells .pat b)] [] [1, 1, 0, 1, 0, 0, 1] [r0] (ref12_Same_j1_st a b i)
noncomputable def ref12_Rename (k : Nat) (p : Pat) (from_ : List Bytes) (to_ : List Bytes) : Option (Pat × Unit) := acall cx k 25 [.agg (cells .pat p), .sl .str false from_, .sl .str false to_] []
def ref12_Rename_j0_st (p : Pat) (from_ : List Bytes) (to_ : List Bytes) (t22 : Bool) : St := { tmps := [.undef, .sl .str false from_, .sl .str false to_, .ptr 0 0, .undef, .undef, .ptr 1 0, .ptr 2 0, .undef, .undef, .undef, .undef, .undef, .undef, .undef, .undef, .undef, .undef, .undef, .undef, .undef, .undef, .bool t22, .undef, .undef, .undef, .undef, .undef, .undef, .undef, .undef, .undef, .undef, .undef, .undef, .undef, .undef, .undef, .undef, .undef, .undef, .undef, .undef, .undef, .undef, .undef, .undef, .undef, .undef, .undef, .undef], objs := [.box (cells .pat p), .box [.int .i64 0, .str ([] : Bytes), .str ([] : Bytes), .int .i64 0, .int .i64 0, .own 3], .box (cells .pat p), .arr .pat false ([] : List Pat)] }
noncomputable def ref12_Rename_j0 (k : Nat) (p : Pat) (from_ : List Bytes) (to_ : List Bytes) (t22 : Bool) : Option (Pat × Unit) := aresume cx k 25 [.agg (cells .pat p), .sl .str false from_, .sl .str false to_] [] [1, 1, 0, 1] [] (ref12_Rename_j0_st p from_ to_ t22)
def ref12_Rename_j1_st (p : Pat) (from_ : List Bytes) (to_ : List Bytes) (x_1 : Bytes) : St := { tmps := [.undef, .sl .str false from_, .sl .str false to_, .ptr 0 0, .undef, .undef, .ptr 1 0, .ptr 2 0, .undef, .undef, .undef, .undef, .undef, .undef, .undef, .undef, .undef, .undef, .undef, .undef, .undef, .undef, .undef, .undef, .undef, .undef, .undef, .undef, .undef, .undef, .undef, .undef, .undef, .undef, .undef, .undef, .undef, .undef, .undef, .undef, .undef, .undef, .undef, .undef, .undef, .undef, .undef, .undef, .undef, .undef, .undef], objs := [.box (cells .pat p), .box [.int .i64 0, .str ([] : Bytes), .str ([] : Bytes), .int .i64 0, .int .i64 0, .own 3], .box [.int .i64 p.k, .str x_1, .str p.type, .int .i64 p.lo, .int .i64 p.hi, .sl .pat false p.l], .arr .pat false ([] : List Pat)] }
noncomputable def ref12_Rename_j1 (k : Nat) (p : Pat) (from_ : List Bytes) (to_ : List Bytes) (x_1 : Bytes) : Option (Pat × Unit) := aresume cx k 25 [.agg (cells .pat p), .sl .str false from_, .sl .str false to_] [] [1, 1, 1] [] (ref12_Rename_j1_st p from_ to_ x_1)
def ref12_Rename_l0_st (p : Pat) (from_ : List Bytes) (to_ : List Bytes) (x_1 : Bytes) : St := { tmps := [.undef, .sl .str false from_, .sl .str false to_, .ptr 0 0, .undef, .undef, .ptr 1 0, .ptr 2 0, .int .i64 0, .undef, .undef, .undef, .undef, .undef, .undef, .undef, .undef, .undef, .undef, .undef, .undef, .undef, .undef, .undef, .undef, .undef, .undef, .undef, .undef, .undef, .undef, .undef, .undef, .undef, .undef, .undef, .undef, .undef, .undef, .undef, .undef, .undef, .undef, .undef, .undef, .undef, .undef, .undef, .undef, .undef, .undef], objs := [.box (cells .pat p), .box [.int .i64 0, .str ([] : Bytes), .str ([] : Bytes), .int .i64 0, .int .i64 0, .own 3], .box [.int .i64 p.k, .str x_1, .str p.type, .int .i64 p.lo, .int .i64 p.hi, .nils], .arr .pat false ([] : List Pat)] }
noncomputable def ref12_Rename_l0 (k : Nat) (n : Nat) (p : Pat) (from_ : List Bytes) (to_ : List Bytes) (x_1 : Bytes) : Option (Pat × Unit) := aresume cx k 25 [.agg (cells .pat p), .sl .str false from_, .sl .str false to_] [] [1, 1, 1, 1, 0, 1, 0] [n] (ref12_Rename_l0_st p from_ to_ x_1)
def ref12_Rename_l1_st (p : Pat) (from_ : List Bytes) (to_ : List Bytes) (x_1 : Bytes) (i : Int) (x_5 : List Pat) : St := { tmps := [.undef, .sl .str false from_, .sl .str false to_, .ptr 0 0, .undef, .undef, .ptr 1 0, .ptr 2 0, .int .i64 i, .undef, .undef, .undef, .undef, .undef, .undef, .undef, .undef, .undef, .undef, .undef, .undef, .undef, .undef, .undef, .undef, .undef, .undef, .undef, .undef, .undef, .undef, .undef, .undef, .undef, .undef, .undef, .undef, .undef, .undef, .undef, .undef, .undef, .undef, .undef, .undef, .undef, .undef, .undef, .undef, .undef, .undef], objs := [.box (cells .pat p), .box [.int .i64 0, .str ([] : Bytes), .str ([] : Bytes), .int .i64 0, .int .i64 0, .own 3], .box [.int .i64 p.k, .str x_1, .str p.type, .int .i64 p.lo, .int .i64 p.hi, .own 4], .arr .pat false ([] : List Pat), .arr .pat false x_5] }
noncomputable def ref12_Rename_l1 (k : Nat) (n : Nat) (p : Pat) (from_ : List Bytes) (to_ : List Bytes) (x_1 : Bytes) (i : Int) (x_5 : List Pat) : Option (Pat × Unit) := aresume cx k 25 [.agg (cells .pat p), .sl .str false from_, .sl .str false to_] [] [1, 1, 1, 1, 0, 1, 0] [n] (ref12_Rename_l1_st p from_ to_ x_1 i x_5)
noncomputable def order_Form (k : Nat) (a : Pat) (b : Pat) : Option (Int × Unit) := acall cx k 20 [.agg (cells .pat a), .agg (cells .pat b)] []
def order_Form_l0_st (a : Pat) (b : Pat) (t18 : Int) : St := { tmps := [.undef, .undef, .undef, .ptr 0 0, .undef, .undef, .undef, .undef, .undef, .undef, .undef, .undef, .undef, .undef, .undef, .undef, .sl .pat false a.l, .int .i64 ((List.length a.l : Nat) : Int), .int .i64 t18, .undef, .undef, .undef, .undef, .undef, .undef, .undef, .undef, .undef, .undef, .undef, .undef, .undef, .undef, .undef], objs := [.box (cells .pat b)] }
noncomputable def order_Form_l0 (k : Nat) (n : Nat) (a : Pat) (b : Pat) (t18 : Int) : Option (Int × Unit) := aresume cx k 20 [.agg (cells .pat a), .agg (cells .pat b)] [] [1, 1, 0, 1, 0] [n] (order_Form_l0_st a b t18)
noncomputable def ref12_Size (k : Nat) (p : Pat) : Option (Int × Unit) := acall cx k 55 [.agg (cells .pat p)] []
def ref12_Size_l0_st (p : Pat) (n_ : Int) (i : Int) : St := { tmps := [.undef, .ptr 0 0, .undef, .int .i64 n_, .int .i64 i, .undef, .undef, .undef, .undef, .undef, .undef, .undef, .undef, .undef, .undef, .undef, .undef, .undef, .undef, .undef, .undef], objs := [.box (cells .pat p)] }
noncomputable def ref12_Size_l0 (k : Nat) (n : Nat) (p : Pat) (n_ : Int) (i : Int) : Option (Int × Unit) := aresume cx k 55 [.agg (cells .pat p)] [] [1, 1, 0, 1, 0] [n] (ref12_Size_l0_st p n_ i)
noncomputable def order_vars (k : Nat) (p : Pat) : Option (List Bytes × Unit) := acall cx k 64 [.agg (cells .pat p)] []
def order_vars_l0_st (p : Pat) (t12 : Int) (out : List Bytes) : St := { tmps := [.undef, .undef, .undef, .own 0, .undef, .undef, .undef, .undef, .undef, .undef, .sl .pat false p.l, .int .i64 ((List.length p.l : Nat) : Int), .int .i64 t12, .undef, .undef, .undef, .undef, .undef, .undef, .undef, .undef, .undef], objs := [.arr .str false out] }
noncomputable def order_vars_l0 (k : Nat) (n : Nat) (p : Pat) (t12 : Int) (out : List Bytes) : Option (List Bytes × Unit) := aresume cx k 64 [.agg (cells .pat p)] [] [1, 1, 0, 1, 0] [n] (order_vars_l0_st p t12 out)
noncomputable def slices_Compare_string (k : Nat) (s1 : List Bytes) (s2 : List Bytes) : Option (Int × Unit) := acall cx k 63 [.sl .str false s1, .sl .str false s2] []
def slices_Compare_string_l0_st (s1 : List Bytes) (s2 : List Bytes) (t11 : Int) : St := { tmps := [.sl .str false s1, .sl .str false s2, .undef, .undef, .undef, .undef, .undef, .undef, .undef, .sl .str false s1, .int .i64 ((List.length s1 : Nat) : Int), .int .i64 t11, .undef, .undef, .undef, .undef, .undef, .undef, .undef, .undef, .undef, .undef, .undef, .undef, .undef, .undef, .undef, .undef, .undef, .undef, .undef, .undef, .undef, .undef, .undef, .undef], objs := [] }
noncomputable def slices_Compare_string_l0 (k : Nat) (n : Nat) (s1 : List Bytes) (s2 : List Bytes) (t11 : Int) : Option (Int × Unit) := aresume cx k 63 [.sl .str false s1, .sl .str false s2] [] [1, 0, 1, 0] [n] (slices_Compare_string_l0_st s1 s2 t11)
noncomputable def ref09_Name (k : Nat) (v : Bytes) (from_ : List Bytes) (to_ : List Bytes) : Option (Bytes × Unit) := acall cx k 59 [.str v, .sl .str false from_, .sl .str false to_] []
def ref09_Name_l0_st (v : Bytes) (from_ : List Bytes) (to_ : List Bytes) (i : Int) : St := { tmps := [.str v, .sl .str false from_, .sl .str false to_, .undef, .undef, .undef, .undef, .int .i64 i, .undef, .undef, .undef, .undef, .undef, .undef, .undef, .undef, .undef, .undef, .undef, .undef, .undef, .undef, .undef, .undef, .undef, .undef, .undef, .undef, .undef, .undef], objs := [] }
noncomputable def ref09_Name_l0 (k : Nat) (n : Nat) (v : Bytes) (from_ : List Bytes) (to_ : List Bytes) (i : Int) : Option (Bytes × Unit) := aresume cx k 59 [.str v, .sl .str false from_, .sl .str false to_] [] [1, 0, 1, 0] [n] (ref09_Name_l0_st v from_ to_ i)
noncomputable def order_node (k : Nat) (a : Pat) (b : Pat) : Option (Int × Unit) := acall cx k 60 [.agg (cells .pat a), .agg (cells .pat b)] []
noncomputable def cmp_Compare_string (k : Nat) (x : Bytes) (y : Bytes) : Option (Int × Unit) := acall cx k 95 [.str x, .str y] []
noncomputable def cmp_Compare_int (k : Nat) (x : Int) (y : Int) : Option (Int × Unit) := acall cx k 94 [.int .i64 x, .int .i64 y] []
noncomputable def cmp_Or_int (k : Nat) (vals : List Int) : Option (Int × Unit) := acall cx k 93 [.sl (.int .i64) false vals] []
def cmp_Or_int_l0_st (vals : List Int) (t8 : Int) : St := { tmps := [.undef, .undef, .undef, .int .i64 0, .undef, .undef, .sl (.int .i64) false vals, .int .i64 ((List.length vals : Nat) : Int), .int .i64 t8, .undef, .undef, .undef, .undef, .undef, .undef, .undef, .undef, .undef], objs := [] }
noncomputable def cmp_Or_int_l0 (k : Nat) (n : Nat) (vals : List Int) (t8 : Int) : Option (Int × Unit) := aresume cx k 93 [.sl (.int .i64) false vals] [] [1, 1, 0, 1, 0] [n] (cmp_Or_int_l0_st vals t8)
noncomputable def cmp_isNaN_string (k : Nat) (x : Bytes) : Option (Bool × Unit) := acall cx k 120 [.str x] []
noncomputable def cmp_isNaN_int (k : Nat) (x : Int) : Option (Bool × Unit) := acall cx k 119 [.int .i64 x] []
theorem law15_OrderOrder_seg (k : Nat) (a : Pat) (b : Pat) (c : Pat) (from_ : List Bytes) (to_ : List Bytes) (C : List Nat → List Nat → St → Option (Bool × Unit)) : @Eq (Option (Bool × Unit)) (scall cx k 5 [.agg (cells .pat a), .agg (cells .pat b), .agg (cells .pat c), .sl .str false from_, .sl .str false to_] [] C) (((law15_light k ([(⟨a.k, a.var, a.type, a.lo, a.hi, a.l⟩ : Pat), (⟨b.k, b.var, b.type, b.lo, b.hi, b.l⟩ : Pat), (⟨c.k, c.var, c.type, c.lo, c.hi, c.l⟩ : Pat)] : List Pat)).bind fun r => (bif (!r.1) then ((law15_awake k).bind fun r1 => some (r1.1, ())) else ((order_Whole k a b).bind fun r1 => ((order_Whole k b c).bind fun r2 => ((ref12_Same k a b).bind fun r3 => (bif ((!((r1.1 == 0) == r3.1)) == false) then ((order_Whole k b a).bind fun r4 => (bif ((r4.1 != (IntKind.i64.wrap (0 - r1.1))) == false) then (bif (decide (r1.1 ≤ 0) == true) then (bif (decide (r2.1 ≤ 0) == true) then ((order_Whole k a c).bind fun r5 => (bif decide (r5.1 > 0) then some (false, ()) else C [1, 1, 1, 1, 1] [] (law15_OrderOrder_j0_st a b c from_ to_ r1))) else C [1, 1, 1, 1, 1] [] (law15_OrderOrder_j0_st a b c from_ to_ r1)) else C [1, 1, 1, 1, 1] [] (law15_OrderOrder_j0_st a b c from_ to_ r1)) else some (false, ()))) else some (false, ())))))))) := by kernel_rfl
theorem law15_OrderOrder_eq (k : Nat) (a : Pat) (b : Pat) (c : Pat) (from_ : List Bytes) (to_ : List Bytes) : law15_OrderOrder (k+1) a b c from_ to_ = ((law15_light k ([(⟨a.k, a.var, a.type, a.lo, a.hi, a.l⟩ : Pat), (⟨b.k, b.var, b.type, b.lo, b.hi, b.l⟩ : Pat), (⟨c.k, c.var, c.type, c.lo, c.hi, c.l⟩ : Pat)] : List Pat)).bind fun r => (bif (!r.1) then ((law15_awake k).bind fun r1 => some (r1.1, ())) else ((order_Whole k a b).bind fun r1 => ((order_Whole k b c).bind fun r2 => ((ref12_Same k a b).bind fun r3 => (bif ((!((r1.1 == 0) == r3.1)) == false) then ((order_Whole k b a).bind fun r4 => (bif ((r4.1 != (IntKind.i64.wrap (0 - r1.1))) == false) then (bif (decide (r1.1 ≤ 0) == true) then (bif (decide (r2.1 ≤ 0) == true) then ((order_Whole k a c).bind fun r5 => (bif decide (r5.1 > 0) then some (false, ()) else law15_OrderOrder_j0 k a b c from_ to_ r1)) else law15_OrderOrder_j0 k a b c from_ to_ r1) else law15_OrderOrder_j0 k a b c from_ to_ r1) else some (false, ()))) else some (false, ()))))))) := (acall_eq k 5 [.agg (cells .pat a), .agg (cells .pat b), .agg (cells .pat c), .sl .str false from_, .sl .str false to_] []).trans (law15_OrderOrder_seg k a b c from_ to_ _)
theorem law15_OrderOrder_j0_seg (k : Nat) (a : Pat) (b : Pat) (c : Pat) (from_ : List Bytes) (to_ : List Bytes) (r1 : (Int × Unit)) (C : List Nat → List Nat → St → Option (Bool × Unit)) : @Eq (Option (Bool × Unit)) (sresume cx k 5 [.agg (cells .pat a), .agg (cells .pat b), .agg (cells .pat c), .sl .str false from_, .sl .str false to_] [] [1, 1, 1, 1, 1] [] (law15_OrderOrder_j0_st a b c from_ to_ r1) C) (((ref12_Rename k a from_ to_).bind fun r => ((order_Form k a r.1).bind fun r2 => (bif ((r2.1 == 0) == true) then ((order_Form k r.1 b).bind fun r3 => ((order_Form k a b).bind fun r4 => (bif ((r3.1 == r4.1) == true) then ((order_Form k a b).bind fun r5 => (bif ((r5.1 == 0) == false) then ((order_Form k a b).bind fun r6 => (bif ((r6.1 == r1.1) == true) then ((law15_awake k).bind fun r7 => some (r7.1, ())) else some (false, ()))) else ((law15_awake k).bind fun r6 => some (r6.1, ())))) else some (false, ())))) else some (false, ()))))) := by kernel_rfl
theorem law15_OrderOrder_j0_eq (k : Nat) (a : Pat) (b : Pat) (c : Pat) (from_ : List Bytes) (to_ : List Bytes) (r1 : (Int × Unit)) : law15_OrderOrder_j0 k a b c from_ to_ r1 = ((ref12_Rename k a from_ to_).bind fun r => ((order_Form k a r.1).bind fun r2 => (bif ((r2.1 == 0) == true) then ((order_Form k r.1 b).bind fun r3 => ((order_Form k a b).bind fun r4 => (bif ((r3.1 == r4.1) == true) then ((order_Form k a b).bind fun r5 => (bif ((r5.1 == 0) == false) then ((order_Form k a b).bind fun r6 => (bif ((r6.1 == r1.1) == true) then ((law15_awake k).bind fun r7 => some (r7.1, ())) else some (false, ()))) else ((law15_awake k).bind fun r6 => some (r6.1, ())))) else some (false, ())))) else some (false, ())))) := (aresume_eq (cx := cx) k 5 [.agg (cells .pat a), .agg (cells .pat b), .agg (cells .pat c), .sl .str false from_, .sl .str false to_] [] [1, 1, 1, 1, 1] [] (law15_OrderOrder_j0_st a b c from_ to_ r1)).trans (law15_OrderOrder_j0_seg k a b c from_ to_ r1 _)
theorem law15_light_seg (k : Nat) (l : List Pat) (C : List Nat → List Nat → St → Option (Bool × Unit)) : @Eq (Option (Bool × Unit)) (scall cx k 18 [.sl .pat false l] [] C) (C [1, 1, 0, 1, 0] [k] (law15_light_l0_st l 0 0)) := by kernel_rfl
theorem law15_light_eq (k : Nat) (l : List Pat) : law15_light (k+1) l = law15_light_l0 k k l 0 0 := (acall_eq k 18 [.sl .pat false l] []).trans (law15_light_seg k l _)
theorem law15_light_l0_seg (k : Nat) (n : Nat) (l : List Pat) (n_ : Int) (i : Int) (C : List Nat → List Nat → St → Option (Bool × Unit)) : @Eq (Option (Bool × Unit)) (sresume cx k 18 [.sl .pat false l] [] [1, 1, 0, 1, 0] [n+1] (law15_light_l0_st l n_ i) C) ((bif (decide (i < ((List.length l : Nat) : Int)) == true) then (bif decide (n_ ≤ 600) then C [1, 1, 0, 1, 0, 0, 1] [n] (law15_light_j0_st l n_ i) else some (decide (n_ ≤ 600), ())) else some (decide (n_ ≤ 600), ()))) := by kernel_rfl
theorem law15_light_l0_eq (k : Nat) (n : Nat) (l : List Pat) (n_ : Int) (i : Int) : law15_light_l0 k (n+1) l n_ i = (bif (decide (i < ((List.length l : Nat) : Int)) == true) then (bif decide (n_ ≤ 600) then law15_light_j0 k n l n_ i else some (decide (n_ ≤ 600), ())) else some (decide (n_ ≤ 600), ())) := (aresume_eq (cx := cx) k 18 [.sl .pat false l] [] [1, 1, 0, 1, 0] [n+1] (law15_light_l0_st l n_ i)).trans (law15_light_l0_seg k n l n_ i _)
theorem law15_light_j0_seg (k : Nat) (r0 : Nat) (l : List Pat) (n_ : Int) (i : Int) (C : List Nat → List Nat → St → Option (Bool × Unit)) : @Eq (Option (Bool × Unit)) (sresume cx k 18 [.sl .pat false l] [] [1, 1, 0, 1, 0, 0, 1] [r0] (law15_light_j0_st l n_ i) C) (((idx l i).bind fun d => ((ref12_Size k d).bind fun r => C [1, 1, 0, 1, 0] [r0] (law15_light_l0_st l (IntKind.i64.wrap (n_ + r.1)) (IntKind.i64.wrap (i + 1)))))) := by kernel_rfl
theorem law15_light_j0_eq (k : Nat) (r0 : Nat) (l : List Pat) (n_ : Int) (i : Int) : law15_light_j0 k r0 l n_ i = ((idx l i).bind fun d => ((ref12_Size k d).bind fun r => law15_light_l0 k r0 l (IntKind.i64.wrap (n_ + r.1)) (IntKind.i64.wrap (i + 1)))) := (aresume_eq (cx := cx) k 18 [.sl .pat false l] [] [1, 1, 0, 1, 0, 0, 1] [r0] (law15_light_j0_st l n_ i)).trans (law15_light_j0_seg k r0 l n_ i _)
theorem order_Whole_seg (k : Nat) (a : Pat) (b : Pat) (C : List Nat → List Nat → St → Option (Int × Unit)) : @Eq (Option (Int × Unit)) (scall cx k 22 [.agg (cells .pat a), .agg (cells .pat b)] [] C) (((order_Form k a b).bind fun r => (bif (r.1 != 0) then some (r.1, ()) else ((order_vars k a).bind fun r1 => ((order_vars k b).bind fun r2 => ((slices_Compare_string k r1.1 r2.1).bind fun r3 => some (r3.1, ()))))))) := by kernel_rfl
theorem order_Whole_eq (k : Nat) (a : Pat) (b : Pat) : order_Whole (k+1) a b = ((order_Form k a b).bind fun r => (bif (r.1 != 0) then some (r.1, ()) else ((order_vars k a).bind fun r1 => ((order_vars k b).bind fun r2 => ((slices_Compare_string k r1.1 r2.1).bind fun r3 => some (r3.1, ())))))) := (acall_eq k 22 [.agg (cells .pat a), .agg (cells .pat b)] []).trans (order_Whole_seg k a b _)
theorem ref12_Same_seg (k : Nat) (a : Pat) (b : Pat) (C : List Nat → List Nat → St → Option (Bool × Unit)) : @Eq (Option (Bool × Unit)) (scall cx k 24 [.agg (cells .pat a), .agg (cells .pat b)] [] C) ((bif ((a.k != b.k) == false) then (bif ((!(a.var == b.var)) == false) then (bif ((!(a.type == b.type)) == false) then (bif ((a.lo != b.lo) == false) then (bif ((a.hi != b.hi) == false) then (bif (((List.length a.l : Nat) : Int) != ((List.length b.l : Nat) : Int)) then some (false, ()) else C [1, 1] [] (ref12_Same_j0_st a b)) else some (false, ())) else some (false, ())) else some (false, ())) else some (false, ())) else some (false, ()))) := by kernel_rfl
theorem ref12_Same_eq (k : Nat) (a : Pat) (b : Pat) : ref12_Same (k+1) a b = (bif ((a.k != b.k) == false) then (bif ((!(a.var == b.var)) == false) then (bif ((!(a.type == b.type)) == false) then (bif ((a.lo != b.lo) == false) then (bif ((a.hi != b.hi) == false) then (bif (((List.length a.l : Nat) : Int) != ((List.length b.l : Nat) : Int)) then some (false, ()) else ref12_Same_j0 k a b) else some (false, ())) else some (false, ())) else some (false, ())) else some (false, ())) else some (false, ())) := (acall_eq k 24 [.agg (cells .pat a), .agg (cells .pat b)] []).trans (ref12_Same_seg k a b _)
theorem ref12_Same_j0_seg (k : Nat) (a : Pat) (b : Pat) (C : List Nat → List Nat → St → Option (Bool × Unit)) : @Eq (Option (Bool × Unit)) (sresume cx k 24 [.agg (cells .pat a), .agg (cells .pat b)] [] [1, 1] [] (ref12_Same_j0_st a b) C) (C [1, 1, 0, 1, 0] [k] (ref12_Same_l0_st a b 0)) := by kernel_rfl
theorem ref12_Same_j0_eq (k : Nat) (a : Pat) (b : Pat) : ref12_Same_j0 k a b = ref12_Same_l0 k k a b 0 := (aresume_eq (cx := cx) k 24 [.agg (cells .pat a), .agg (cells .pat b)] [] [1, 1] [] (ref12_Same_j0_st a b)).trans (ref12_Same_j0_seg k a b _)
theorem ref12_Same_l0_seg (k : Nat) (n : Nat) (a : Pat) (b : Pat) (i : Int) (C : List Nat → List Nat → St → Option (Bool × Unit)) : @Eq (Option (Bool × Unit)) (sresume cx k 24 [.agg (cells .pat a), .agg (cells .pat b)] [] [1, 1, 0, 1, 0] [n+1] (ref12_Same_l0_st a b i) C) ((bif (decide (i < ((List.length a.l : Nat) : Int)) == true) then (bif decide (i < ((List.length b.l : Nat) : Int)) then C [1, 1, 0, 1, 0, 0, 1] [n] (ref12_Same_j1_st a b i) else some (true, ())) else some (true, ()))) := by kernel_rfl
theorem ref12_Same_l0_eq (k : Nat) (n : Nat) (a : Pat) (b : Pat) (i : Int) : ref12_Same_l0 k (n+1) a b i = (bif (decide (i < ((List.length a.l : Nat) : Int)) == true) then (bif decide (i < ((List.length b.l : Nat) : Int)) then ref12_Same_j1 k n a b i else some (true, ())) else some (true, ())) := (aresume_eq (cx := cx) k 24 [.agg (cells .pat a), .agg (cells .pat b)] [] [1, 1, 0, 1, 0] [n+1] (ref12_Same_l0_st a b i)).trans (ref12_Same_l0_seg k n a b i _)
theorem ref12_Same_j1_seg (k : Nat) (r0 : Nat) (a : Pat) (b : Pat) (i : Int) (C : List Nat → List Nat → St → Option (Bool × Unit)) : @Eq (Option (Bool × Unit)) (sresume cx k 24 [.agg (cells .pat a), .agg (cells .pat b)] [] [1, 1, 0, 1, 0, 0, 1] [r0] (ref12_Same_j1_st a b i) C) (((idx a.l i).bind fun d => ((idx b.l i).bind fun d1 => ((ref12_Same k d d1).bind fun r => (bif (!r.1) then some (false, ()) else C [1, 1, 0, 1, 0] [r0] (ref12_Same_l0_st a b (IntKind.i64.wrap (i + 1)))))))) := by kernel_rfl
theorem ref12_Same_j1_eq (k : Nat) (r0 : Nat) (a : Pat) (b : Pat) (i : Int) : ref12_Same_j1 k r0 a b i = ((idx a.l i).bind fun d => ((idx b.l i).bind fun d1 => ((ref12_Same k d d1).bind fun r => (bif (!r.1) then some (false, ()) else ref12_Same_l0 k r0 a b (IntKind.i64.wrap (i + 1)))))) := (aresume_eq (cx := cx) k 24 [.agg (cells .pat a), .agg (cells .pat b)] [] [1, 1, 0, 1, 0, 0, 1] [r0] (ref12_Same_j1_st a b i)).trans (ref12_Same_j1_seg k r0 a b i _)
theorem ref12_Rename_seg (k : Nat) (p : Pat) (from_ : List Bytes) (to_ : List Bytes) (C : List Nat → List Nat → St → Option (Pat × Unit)) : @Eq (Option (Pat × Unit)) (scall cx k 25 [.agg (cells .pat p), .sl .str false from_, .sl .str false to_] [] C) ((bif ((p.k == 1) == false) then (bif ((p.k == 5) == false) then C [1, 1, 0, 1] [] (ref12_Rename_j0_st p from_ to_ (p.k == 6)) else C [1, 1, 0, 1] [] (ref12_Rename_j0_st p from_ to_ true)) else C [1, 1, 0, 1] [] (ref12_Rename_j0_st p from_ to_ true))) := by kernel_rfl
theorem ref12_Rename_eq (k : Nat) (p : Pat) (from_ : List Bytes) (to_ : List Bytes) : ref12_Rename (k+1) p from_ to_ = (bif ((p.k == 1) == false) then (bif ((p.k == 5) == false) then ref12_Rename_j0 k p from_ to_ (p.k == 6) else ref12_Rename_j0 k p from_ to_ true) else ref12_Rename_j0 k p from_ to_ true) := (acall_eq k 25 [.agg (cells .pat p), .sl .str false from_, .sl .str false to_] []).trans (ref12_Rename_seg k p from_ to_ _)
theorem ref12_Rename_j0_seg (k : Nat) (p : Pat) (from_ : List Bytes) (to_ : List Bytes) (t22 : Bool) (C : List Nat → List Nat → St → Option (Pat × Unit)) : @Eq (Option (Pat × Unit)) (sresume cx k 25 [.agg (cells .pat p), .sl .str false from_, .sl .str false to_] [] [1, 1, 0, 1] [] (ref12_Rename_j0_st p from_ to_ t22) C) ((bif t22 then ((ref09_Name k p.var from_ to_).bind fun r => C [1, 1, 1] [] (ref12_Rename_j1_st p from_ to_ r.1)) else C [1, 1, 1] [] (ref12_Rename_j1_st p from_ to_ p.var))) := by kernel_rfl
theorem ref12_Rename_j0_eq (k : Nat) (p : Pat) (from_ : List Bytes) (to_ : List Bytes) (t22 : Bool) : ref12_Rename_j0 k p from_ to_ t22 = (bif t22 then ((ref09_Name k p.var from_ to_).bind fun r => ref12_Rename_j1 k p from_ to_ r.1) else ref12_Rename_j1 k p from_ to_ p.var) := (aresume_eq (cx := cx) k 25 [.agg (cells .pat p), .sl .str false from_, .sl .str false to_] [] [1, 1, 0, 1] [] (ref12_Rename_j0_st p from_ to_ t22)).trans (ref12_Rename_j0_seg k p from_ to_ t22 _)
theorem ref12_Rename_j1_seg (k : Nat) (p : Pat) (from_ : List Bytes) (to_ : List Bytes) (x_1 : Bytes) (C : List Nat → List Nat → St → Option (Pat × Unit)) : @Eq (Option (Pat × Unit)) (sresume cx k 25 [.agg (cells .pat p), .sl .str false from_, .sl .str false to_] [] [1, 1, 1] [] (ref12_Rename_j1_st p from_ to_ x_1) C) (C [1, 1, 1, 1, 0, 1, 0] [k] (ref12_Rename_l0_st p from_ to_ x_1)) := by kernel_rfl
theorem ref12_Rename_j1_eq (k : Nat) (p : Pat) (from_ : List Bytes) (to_ : List Bytes) (x_1 : Bytes) : ref12_Rename_j1 k p from_ to_ x_1 = ref12_Rename_l0 k k p from_ to_ x_1 := (aresume_eq (cx := cx) k 25 [.agg (cells .pat p), .sl .str false from_, .sl .str false to_] [] [1, 1, 1] [] (ref12_Rename_j1_st p from_ to_ x_1)).trans (ref12_Rename_j1_seg k p from_ to_ x_1 _)
theorem ref12_Rename_l0_seg (k : Nat) (n : Nat) (p : Pat) (from_ : List Bytes) (to_ : List Bytes) (x_1 : Bytes) (C : List Nat → List Nat → St → Option (Pat × Unit)) : @Eq (Option (Pat × Unit)) (sresume cx k 25 [.agg (cells .pat p), .sl .str false from_, .sl .str false to_] [] [1, 1, 1, 1, 0, 1, 0] [n+1] (ref12_Rename_l0_st p from_ to_ x_1) C) ((bif decide (0 < ((List.length p.l : Nat) : Int)) then ((idx p.l 0).bind fun d => ((ref12_Rename k d from_ to_).bind fun r => (bif decide (List.length ([(⟨r.1.k, r.1.var, r.1.type, r.1.lo, r.1.hi, r.1.l⟩ : Pat)] : List Pat) * 80 ≤ 140737488355328) then C [1, 1, 1, 1, 0, 1, 0] [n] (ref12_Rename_l1_st p from_ to_ x_1 1 ([(⟨r.1.k, r.1.var, r.1.type, r.1.lo, r.1.hi, r.1.l⟩ : Pat)] : List Pat)) else none))) else some ((⟨p.k, x_1, p.type, p.lo, p.hi, ([] : List Pat)⟩ : Pat), ()))) := by kernel_rfl
theorem ref12_Rename_l0_eq (k : Nat) (n : Nat) (p : Pat) (from_ : List Bytes) (to_ : List Bytes) (x_1 : Bytes) : ref12_Rename_l0 k (n+1) p from_ to_ x_1 = (bif decide (0 < ((List.length p.l : Nat) : Int)) then ((idx p.l 0).bind fun d => ((ref12_Rename k d from_ to_).bind fun r => (bif decide (List.length ([(⟨r.1.k, r.1.var, r.1.type, r.1.lo, r.1.hi, r.1.l⟩ : Pat)] : List Pat) * 80 ≤ 140737488355328) then ref12_Rename_l1 k n p from_ to_ x_1 1 ([(⟨r.1.k, r.1.var, r.1.type, r.1.lo, r.1.hi, r.1.l⟩ : Pat)] : List Pat) else none))) else some ((⟨p.k, x_1, p.type, p.lo, p.hi, ([] : List Pat)⟩ : Pat), ())) := (aresume_eq (cx := cx) k 25 [.agg (cells .pat p), .sl .str false from_, .sl .str false to_] [] [1, 1, 1, 1, 0, 1, 0] [n+1] (ref12_Rename_l0_st p from_ to_ x_1)).trans (ref12_Rename_l0_seg k n p from_ to_ x_1 _)
theorem ref12_Rename_l1_seg (k : Nat) (n : Nat) (p : Pat) (from_ : List Bytes) (to_ : List Bytes) (x_1 : Bytes) (i : Int) (x_5 : List Pat) (C : List Nat → List Nat → St → Option (Pat × Unit)) : @Eq (Option (Pat × Unit)) (sresume cx k 25 [.agg (cells .pat p), .sl .str false from_, .sl .str false to_] [] [1, 1, 1, 1, 0, 1, 0] [n+1] (ref12_Rename_l1_st p from_ to_ x_1 i x_5) C) ((bif decide (i < ((List.length p.l : Nat) : Int)) then ((idx p.l i).bind fun d => ((ref12_Rename k d from_ to_).bind fun r => (bif decide ((List.length x_5 + List.length ([(⟨r.1.k, r.1.var, r.1.type, r.1.lo, r.1.hi, r.1.l⟩ : Pat)] : List Pat)) * 80 ≤ 140737488355328) then C [1, 1, 1, 1, 0, 1, 0] [n] (ref12_Rename_l1_st p from_ to_ x_1 (IntKind.i64.wrap (i + 1)) (x_5 ++ ([(⟨r.1.k, r.1.var, r.1.type, r.1.lo, r.1.hi, r.1.l⟩ : Pat)] : List Pat))) else none))) else some ((⟨p.k, x_1, p.type, p.lo, p.hi, x_5⟩ : Pat), ()))) := by kernel_rfl
theorem ref12_Rename_l1_eq (k : Nat) (n : Nat) (p : Pat) (from_ : List Bytes) (to_ : List Bytes) (x_1 : Bytes) (i : Int) (x_5 : List Pat) : ref12_Rename_l1 k (n+1) p from_ to_ x_1 i x_5 = (bif decide (i < ((List.length p.l : Nat) : Int)) then ((idx p.l i).bind fun d => ((ref12_Rename k d from_ to_).bind fun r => (bif decide ((List.length x_5 + List.length ([(⟨r.1.k, r.1.var, r.1.type, r.1.lo, r.1.hi, r.1.l⟩ : Pat)] : List Pat)) * 80 ≤ 140737488355328) then ref12_Rename_l1 k n p from_ to_ x_1 (IntKind.i64.wrap (i + 1)) (x_5 ++ ([(⟨r.1.k, r.1.var, r.1.type, r.1.lo, r.1.hi, r.1.l⟩ : Pat)] : List Pat)) else none))) else some ((⟨p.k, x_1, p.type, p.lo, p.hi, x_5⟩ : Pat), ())) := (aresume_eq (cx := cx) k 25 [.agg (cells .pat p), .sl .str false from_, .sl .str false to_] [] [1, 1, 1, 1, 0, 1, 0] [n+1] (ref12_Rename_l1_st p from_ to_ x_1 i x_5)).trans (ref12_Rename_l1_seg k n p from_ to_ x_1 i x_5 _)
theorem order_Form_seg (k : Nat) (a : Pat) (b : Pat) (C : List Nat → List Nat → St → Option (Int × Unit)) : @Eq (Option (Int × Unit)) (scall cx k 20 [.agg (cells .pat a), .agg (cells .pat b)] [] C) (((order_node k a b).bind fun r => (bif (r.1 != 0) then some (r.1, ()) else C [1, 1, 0, 1, 0] [k] (order_Form_l0_st a b 0)))) := by kernel_rfl
theorem order_Form_eq (k : Nat) (a : Pat) (b : Pat) : order_Form (k+1) a b = ((order_node k a b).bind fun r => (bif (r.1 != 0) then some (r.1, ()) else order_Form_l0 k k a b 0)) := (acall_eq k 20 [.agg (cells .pat a), .agg (cells .pat b)] []).trans (order_Form_seg k a b _)
theorem order_Form_l0_seg (k : Nat) (n : Nat) (a : Pat) (b : Pat) (t18 : Int) (C : List Nat → List Nat → St → Option (Int × Unit)) : @Eq (Option (Int × Unit)) (sresume cx k 20 [.agg (cells .pat a), .agg (cells .pat b)] [] [1, 1, 0, 1, 0] [n+1] (order_Form_l0_st a b t18) C) ((bif decide (t18 < ((List.length a.l : Nat) : Int)) then ((idx a.l t18).bind fun d => ((idx b.l t18).bind fun d1 => ((order_Form k d d1).bind fun r => (bif (r.1 != 0) then some (r.1, ()) else C [1, 1, 0, 1, 0] [n] (order_Form_l0_st a b (IntKind.i64.wrap (t18 + 1))))))) else some (0, ()))) := by kernel_rfl
theorem order_Form_l0_eq (k : Nat) (n : Nat) (a : Pat) (b : Pat) (t18 : Int) : order_Form_l0 k (n+1) a b t18 = (bif decide (t18 < ((List.length a.l : Nat) : Int)) then ((idx a.l t18).bind fun d => ((idx b.l t18).bind fun d1 => ((order_Form k d d1).bind fun r => (bif (r.1 != 0) then some (r.1, ()) else order_Form_l0 k n a b (IntKind.i64.wrap (t18 + 1)))))) else some (0, ())) := (aresume_eq (cx := cx) k 20 [.agg (cells .pat a), .agg (cells .pat b)] [] [1, 1, 0, 1, 0] [n+1] (order_Form_l0_st a b t18)).trans (order_Form_l0_seg k n a b t18 _)
theorem ref12_Size_seg (k : Nat) (p : Pat) (C : List Nat → List Nat → St → Option (Int × Unit)) : @Eq (Option (Int × Unit)) (scall cx k 55 [.agg (cells .pat p)] [] C) (C [1, 1, 0, 1, 0] [k] (ref12_Size_l0_st p 1 0)) := by kernel_rfl
theorem ref12_Size_eq (k : Nat) (p : Pat) : ref12_Size (k+1) p = ref12_Size_l0 k k p 1 0 := (acall_eq k 55 [.agg (cells .pat p)] []).trans (ref12_Size_seg k p _)
theorem ref12_Size_l0_seg (k : Nat) (n : Nat) (p : Pat) (n_ : Int) (i : Int) (C : List Nat → List Nat → St → Option (Int × Unit)) : @Eq (Option (Int × Unit)) (sresume cx k 55 [.agg (cells .pat p)] [] [1, 1, 0, 1, 0] [n+1] (ref12_Size_l0_st p n_ i) C) ((bif decide (i < ((List.length p.l : Nat) : Int)) then ((idx p.l i).bind fun d => ((ref12_Size k d).bind fun r => C [1, 1, 0, 1, 0] [n] (ref12_Size_l0_st p (IntKind.i64.wrap (n_ + r.1)) (IntKind.i64.wrap (i + 1))))) else some (n_, ()))) := by kernel_rfl
theorem ref12_Size_l0_eq (k : Nat) (n : Nat) (p : Pat) (n_ : Int) (i : Int) : ref12_Size_l0 k (n+1) p n_ i = (bif decide (i < ((List.length p.l : Nat) : Int)) then ((idx p.l i).bind fun d => ((ref12_Size k d).bind fun r => ref12_Size_l0 k n p (IntKind.i64.wrap (n_ + r.1)) (IntKind.i64.wrap (i + 1)))) else some (n_, ())) := (aresume_eq (cx := cx) k 55 [.agg (cells .pat p)] [] [1, 1, 0, 1, 0] [n+1] (ref12_Size_l0_st p n_ i)).trans (ref12_Size_l0_seg k n p n_ i _)
theorem order_vars_seg (k : Nat) (p : Pat) (C : List Nat → List Nat → St → Option (List Bytes × Unit)) : @Eq (Option (List Bytes × Unit)) (scall cx k 64 [.agg (cells .pat p)] [] C) (C [1, 1, 0, 1, 0] [k] (order_vars_l0_st p 0 ([p.var] : List Bytes))) := by kernel_rfl
theorem order_vars_eq (k : Nat) (p : Pat) : order_vars (k+1) p = order_vars_l0 k k p 0 ([p.var] : List Bytes) := (acall_eq k 64 [.agg (cells .pat p)] []).trans (order_vars_seg k p _)
theorem order_vars_l0_seg (k : Nat) (n : Nat) (p : Pat) (t12 : Int) (out : List Bytes) (C : List Nat → List Nat → St → Option (List Bytes × Unit)) : @Eq (Option (List Bytes × Unit)) (sresume cx k 64 [.agg (cells .pat p)] [] [1, 1, 0, 1, 0] [n+1] (order_vars_l0_st p t12 out) C) ((bif decide (t12 < ((List.length p.l : Nat) : Int)) then ((idx p.l t12).bind fun d => ((order_vars k d).bind fun r => (bif decide ((List.length out + List.length r.1) * 16 ≤ 140737488355328) then C [1, 1, 0, 1, 0] [n] (order_vars_l0_st p (IntKind.i64.wrap (t12 + 1)) (out ++ r.1)) else none))) else some (out, ()))) := by kernel_rfl
theorem order_vars_l0_eq (k : Nat) (n : Nat) (p : Pat) (t12 : Int) (out : List Bytes) : order_vars_l0 k (n+1) p t12 out = (bif decide (t12 < ((List.length p.l : Nat) : Int)) then ((idx p.l t12).bind fun d => ((order_vars k d).bind fun r => (bif decide ((List.length out + List.length r.1) * 16 ≤ 140737488355328) then order_vars_l0 k n p (IntKind.i64.wrap (t12 + 1)) (out ++ r.1) else none))) else some (out, ())) := (aresume_eq (cx := cx) k 64 [.agg (cells .pat p)] [] [1, 1, 0, 1, 0] [n+1] (order_vars_l0_st p t12 out)).trans (order_vars_l0_seg k n p t12 out _)
theorem slices_Compare_string_seg (k : Nat) (s1 : List Bytes) (s2 : List Bytes) (C : List Nat → List Nat → St → Option (Int × Unit)) : @Eq (Option (Int × Unit)) (scall cx k 63 [.sl .str false s1, .sl .str false s2] [] C) (C [1, 0, 1, 0] [k] (slices_Compare_string_l0_st s1 s2 0)) := by kernel_rfl
theorem slices_Compare_string_eq (k : Nat) (s1 : List Bytes) (s2 : List Bytes) : slices_Compare_string (k+1) s1 s2 = slices_Compare_string_l0 k k s1 s2 0 := (acall_eq k 63 [.sl .str false s1, .sl .str false s2] []).trans (slices_Compare_string_seg k s1 s2 _)
theorem slices_Compare_string_l0_seg (k : Nat) (n : Nat) (s1 : List Bytes) (s2 : List Bytes) (t11 : Int) (C : List Nat → List Nat → St → Option (Int × Unit)) : @Eq (Option (Int × Unit)) (sresume cx k 63 [.sl .str false s1, .sl .str false s2] [] [1, 0, 1, 0] [n+1] (slices_Compare_string_l0_st s1 s2 t11) C) ((bif decide (t11 < ((List.length s1 : Nat) : Int)) then ((idx s1 t11).bind fun d => (bif decide (t11 ≥ ((List.length s2 : Nat) : Int)) then some (1, ()) else ((idx s2 t11).bind fun d1 => ((cmp_Compare_string k d d1).bind fun r => (bif (r.1 != 0) then some (r.1, ()) else C [1, 0, 1, 0] [n] (slices_Compare_string_l0_st s1 s2 (IntKind.i64.wrap (t11 + 1)))))))) else (bif decide (((List.length s1 : Nat) : Int) < ((List.length s2 : Nat) : Int)) then some ((-1), ()) else some (0, ())))) := by kernel_rfl
theorem slices_Compare_string_l0_eq (k : Nat) (n : Nat) (s1 : List Bytes) (s2 : List Bytes) (t11 : Int) : slices_Compare_string_l0 k (n+1) s1 s2 t11 = (bif decide (t11 < ((List.length s1 : Nat) : Int)) then ((idx s1 t11).bind fun d => (bif decide (t11 ≥ ((List.length s2 : Nat) : Int)) then some (1, ()) else ((idx s2 t11).bind fun d1 => ((cmp_Compare_string k d d1).bind fun r => (bif (r.1 != 0) then some (r.1, ()) else slices_Compare_string_l0 k n s1 s2 (IntKind.i64.wrap (t11 + 1))))))) else (bif decide (((List.length s1 : Nat) : Int) < ((List.length s2 : Nat) : Int)) then some ((-1), ()) else some (0, ()))) := (aresume_eq (cx := cx) k 63 [.sl .str false s1, .sl .str false s2] [] [1, 0, 1, 0] [n+1] (slices_Compare_string_l0_st s1 s2 t11)).trans (slices_Compare_string_l0_seg k n s1 s2 t11 _)
theorem ref09_Name_seg (k : Nat) (v : Bytes) (from_ : List Bytes) (to_ : List Bytes) (C : List Nat → List Nat → St → Option (Bytes × Unit)) : @Eq (Option (Bytes × Unit)) (scall cx k 59 [.str v, .sl .str false from_, .sl .str false to_] [] C) (C [1, 0, 1, 0] [k] (ref09_Name_l0_st v from_ to_ 0)) := by kernel_rfl
theorem ref09_Name_eq (k : Nat) (v : Bytes) (from_ : List Bytes) (to_ : List Bytes) : ref09_Name (k+1) v from_ to_ = ref09_Name_l0 k k v from_ to_ 0 := (acall_eq k 59 [.str v, .sl .str false from_, .sl .str false to_] []).trans (ref09_Name_seg k v from_ to_ _)
theorem ref09_Name_l0_seg (k : Nat) (n : Nat) (v : Bytes) (from_ : List Bytes) (to_ : List Bytes) (i : Int) (C : List Nat → List Nat → St → Option (Bytes × Unit)) : @Eq (Option (Bytes × Unit)) (sresume cx k 59 [.str v, .sl .str false from_, .sl .str false to_] [] [1, 0, 1, 0] [n+1] (ref09_Name_l0_st v from_ to_ i) C) ((bif decide (i < ((List.length from_ : Nat) : Int)) then ((idx from_ i).bind fun d => (bif (d == v) then (bif decide (i < ((List.length to_ : Nat) : Int)) then ((idx to_ i).bind fun d1 => some (d1, ())) else some (v, ())) else C [1, 0, 1, 0] [n] (ref09_Name_l0_st v from_ to_ (IntKind.i64.wrap (i + 1))))) else some (v, ()))) := by kernel_rfl
theorem ref09_Name_l0_eq (k : Nat) (n : Nat) (v : Bytes) (from_ : List Bytes) (to_ : List Bytes) (i : Int) : ref09_Name_l0 k (n+1) v from_ to_ i = (bif decide (i < ((List.length from_ : Nat) : Int)) then ((idx from_ i).bind fun d => (bif (d == v) then (bif decide (i < ((List.length to_ : Nat) : Int)) then ((idx to_ i).bind fun d1 => some (d1, ())) else some (v, ())) else ref09_Name_l0 k n v from_ to_ (IntKind.i64.wrap (i + 1)))) else some (v, ())) := (aresume_eq (cx := cx) k 59 [.str v, .sl .str false from_, .sl .str false to_] [] [1, 0, 1, 0] [n+1] (ref09_Name_l0_st v from_ to_ i)).trans (ref09_Name_l0_seg k n v from_ to_ i _)
theorem order_node_seg (k : Nat) (a : Pat) (b : Pat) (C : List Nat → List Nat → St → Option (Int × Unit)) : @Eq (Option (Int × Unit)) (scall cx k 60 [.agg (cells .pat a), .agg (cells .pat b)] [] C) (((cmp_Compare_int k a.k b.k).bind fun r => ((cmp_Compare_string k a.type b.type).bind fun r1 => ((cmp_Compare_int k a.lo b.lo).bind fun r2 => ((cmp_Compare_int k a.hi b.hi).bind fun r3 => ((cmp_Compare_int k ((List.length a.l : Nat) : Int) ((List.length b.l : Nat) : Int)).bind fun r4 => ((cmp_Or_int k ([r.1, r1.1, r2.1, r3.1, r4.1] : List Int)).bind fun r5 => some (r5.1, ())))))))) := by kernel_rfl
theorem order_node_eq (k : Nat) (a : Pat) (b : Pat) : order_node (k+1) a b = ((cmp_Compare_int k a.k b.k).bind fun r => ((cmp_Compare_string k a.type b.type).bind fun r1 => ((cmp_Compare_int k a.lo b.lo).bind fun r2 => ((cmp_Compare_int k a.hi b.hi).bind fun r3 => ((cmp_Compare_int k ((List.length a.l : Nat) : Int) ((List.length b.l : Nat) : Int)).bind fun r4 => ((cmp_Or_int k ([r.1, r1.1, r2.1, r3.1, r4.1] : List Int)).bind fun r5 => some (r5.1, ()))))))) := (acall_eq k 60 [.agg (cells .pat a), .agg (cells .pat b)] []).trans (order_node_seg k a b _)
theorem cmp_Compare_string_seg (k : Nat) (x : Bytes) (y : Bytes) (C : List Nat → List Nat → St → Option (Int × Unit)) : @Eq (Option (Int × Unit)) (scall cx k 95 [.str x, .str y] [] C) (((cmp_isNaN_string k x).bind fun r => ((cmp_isNaN_string k y).bind fun r1 => (bif r.1 then (bif r1.1 then some (0, ()) else some ((-1), ())) else (bif r1.1 then some (1, ()) else (bif (Op.bytesLess x y) then some ((-1), ()) else (bif (!(Op.bytesLess x y || x == y)) then some (1, ()) else some (0, ())))))))) := by kernel_rfl
theorem cmp_Compare_string_eq (k : Nat) (x : Bytes) (y : Bytes) : cmp_Compare_string (k+1) x y = ((cmp_isNaN_string k x).bind fun r => ((cmp_isNaN_string k y).bind fun r1 => (bif r.1 then (bif r1.1 then some (0, ()) else some ((-1), ())) else (bif r1.1 then some (1, ()) else (bif (Op.bytesLess x y) then some ((-1), ()) else (bif (!(Op.bytesLess x y || x == y)) then some (1, ()) else some (0, ()))))))) := (acall_eq k 95 [.str x, .str y] []).trans (cmp_Compare_string_seg k x y _)
theorem cmp_Compare_int_seg (k : Nat) (x : Int) (y : Int) (C : List Nat → List Nat → St → Option (Int × Unit)) : @Eq (Option (Int × Unit)) (scall cx k 94 [.int .i64 x, .int .i64 y] [] C) (((cmp_isNaN_int k x).bind fun r => ((cmp_isNaN_int k y).bind fun r1 => (bif r.1 then (bif r1.1 then some (0, ()) else some ((-1), ())) else (bif r1.1 then some (1, ()) else (bif decide (x < y) then some ((-1), ()) else (bif decide (x > y) then some (1, ()) else some (0, ())))))))) := by kernel_rfl
theorem cmp_Compare_int_eq (k : Nat) (x : Int) (y : Int) : cmp_Compare_int (k+1) x y = ((cmp_isNaN_int k x).bind fun r => ((cmp_isNaN_int k y).bind fun r1 => (bif r.1 then (bif r1.1 then some (0, ()) else some ((-1), ())) else (bif r1.1 then some (1, ()) else (bif decide (x < y) then some ((-1), ()) else (bif decide (x > y) then some (1, ()) else some (0, ()))))))) := (acall_eq k 94 [.int .i64 x, .int .i64 y] []).trans (cmp_Compare_int_seg k x y _)
theorem cmp_Or_int_seg (k : Nat) (vals : List Int) (C : List Nat → List Nat → St → Option (Int × Unit)) : @Eq (Option (Int × Unit)) (scall cx k 93 [.sl (.int .i64) false vals] [] C) (C [1, 1, 0, 1, 0] [k] (cmp_Or_int_l0_st vals 0)) := by kernel_rfl
theorem cmp_Or_int_eq (k : Nat) (vals : List Int) : cmp_Or_int (k+1) vals = cmp_Or_int_l0 k k vals 0 := (acall_eq k 93 [.sl (.int .i64) false vals] []).trans (cmp_Or_int_seg k vals _)
theorem cmp_Or_int_l0_seg (k : Nat) (n : Nat) (vals : List Int) (t8 : Int) (C : List Nat → List Nat → St → Option (Int × Unit)) : @Eq (Option (Int × Unit)) (sresume cx k 93 [.sl (.int .i64) false vals] [] [1, 1, 0, 1, 0] [n+1] (cmp_Or_int_l0_st vals t8) C) ((bif decide (t8 < ((List.length vals : Nat) : Int)) then ((idx vals t8).bind fun d => (bif (d != 0) then some (d, ()) else C [1, 1, 0, 1, 0] [n] (cmp_Or_int_l0_st vals (IntKind.i64.wrap (t8 + 1))))) else some (0, ()))) := by kernel_rfl
theorem cmp_Or_int_l0_eq (k : Nat) (n : Nat) (vals : List Int) (t8 : Int) : cmp_Or_int_l0 k (n+1) vals t8 = (bif decide (t8 < ((List.length vals : Nat) : Int)) then ((idx vals t8).bind fun d => (bif (d != 0) then some (d, ()) else cmp_Or_int_l0 k n vals (IntKind.i64.wrap (t8 + 1)))) else some (0, ())) := (aresume_eq (cx := cx) k 93 [.sl (.int .i64) false vals] [] [1, 1, 0, 1, 0] [n+1] (cmp_Or_int_l0_st vals t8)).trans (cmp_Or_int_l0_seg k n vals t8 _)
theorem cmp_isNaN_string_seg (k : Nat) (x : Bytes) (C : List Nat → List Nat → St → Option (Bool × Unit)) : @Eq (Option (Bool × Unit)) (scall cx k 120 [.str x] [] C) (some ((!(x == x)), ())) := by kernel_rfl
theorem cmp_isNaN_string_eq (k : Nat) (x : Bytes) : cmp_isNaN_string (k+1) x = some ((!(x == x)), ()) := (acall_eq k 120 [.str x] []).trans (cmp_isNaN_string_seg k x _)
theorem cmp_isNaN_int_seg (k : Nat) (x : Int) (C : List Nat → List Nat → St → Option (Bool × Unit)) : @Eq (Option (Bool × Unit)) (scall cx k 119 [.int .i64 x] [] C) (some ((x != x), ())) := by kernel_rfl
theorem cmp_isNaN_int_eq (k : Nat) (x : Int) : cmp_isNaN_int (k+1) x = some ((x != x), ()) := (acall_eq k 119 [.int .i64 x] []).trans (cmp_isNaN_int_seg k x _)
theorem law15_OrderOrder_def : @law15_OrderOrder = fun k a b c from_ to_ => acall cx k 5 [.agg (cells .pat a), .agg (cells .pat b), .agg (cells .pat c), .sl .str false from_, .sl .str false to_] [] := rfl
attribute [irreducible] law15_OrderOrder law15_OrderOrder_j0_st law15_OrderOrder_j0 law15_light law15_light_l0_st law15_light_l0 law15_light_j0_st law15_light_j0 law15_awake order_Whole ref12_Same ref12_Same_j0_st ref12_Same_j0 ref12_Same_l0_st ref12_Same_l0 ref12_Same_j1_st ref12_Same_j1 ref12_Rename ref12_Rename_j0_st ref12_Rename_j0 ref12_Rename_j1_st ref12_Rename_j1 ref12_Rename_l0_st ref12_Rename_l0 ref12_Rename_l1_st ref12_Rename_l1 order_Form order_Form_l0_st order_Form_l0 ref12_Size ref12_Size_l0_st ref12_Size_l0 order_vars order_vars_l0_st order_vars_l0 slices_Compare_string slices_Compare_string_l0_st slices_Compare_string_l0 ref09_Name ref09_Name_l0_st ref09_Name_l0 order_node cmp_Compare_string cmp_Compare_int cmp_Or_int cmp_Or_int_l0_st cmp_Or_int_l0 cmp_isNaN_string cmp_isNaN_int
end Go.Ev.HpOO
