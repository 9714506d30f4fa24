import Derived.Test.YtpbgbhbmjepmeaaProg
import Derived.Test.YtpbgbhbmjepmeaaHpEwG
import Derived.Test.YtpbgbhbmjepmeaaHpEwR
import Derived.KernelRfl
set_option maxRecDepth 20000
set_option linter.unusedVariables false
namespace Go.Ev.HpPR
def kinds : List Kind := [.other,
  .fn,
  .int .i64,
  .int .i64,
  .bool,
  .int .u8,
  .int .u8,
  .st [(0, 2), (1, 3), (2, 4), (3, 6)] 4 [none, none, none, none] [(.int .i64 0), (.int .i64 0), (.bool false), (.int .u8 0)] true,
  .st [(0, 2), (1, 3), (2, 4), (3, 6)] 4 [none, none, none, none] [(.int .i64 0), (.int .i64 0), (.bool false), (.int .u8 0)] true,
  .str,
  .str,
  .str,
  .int .u64,
  .other,
  .other,
  .ptr 175,
  .ptr 178,
  .ptr 187,
  .st [(0, 17)] 1 [none] [.nilp] false,
  .st [(0, 17)] 1 [none] [.nilp] false,
  .other,
  .int .i32,
  .sl .pat 24 6 80,
  .st [(0, 3), (1, 9), (2, 9), (3, 3), (4, 3), (5, 22)] 6 [none, none, none, none, none, (some .pat)] [(.int .i64 0), (.str []), (.str []), (.int .i64 0), (.int .i64 0), .nils] false,
  .st [(0, 3), (1, 9), (2, 9), (3, 3), (4, 3), (5, 22)] 6 [none, none, none, none, none, (some .pat)] [(.int .i64 0), (.str []), (.str []), (.int .i64 0), (.int .i64 0), .nils] false,
  .sl .str 9 1 16,
  .fn,
  .fn,
  .fn,
  .fn,
  .fn,
  .st [(0, 3), (1, 2), (2, 9)] 3 [none, none, none] [(.int .i64 0), (.int .i64 0), (.str [])] true,
  .st [(0, 3), (1, 2), (2, 9)] 3 [none, none, none] [(.int .i64 0), (.int .i64 0), (.str [])] true,
  .fn,
  .fn,
  .sl .u8 5 1 1,
  .sl (.int .u64) 45 1 8,
  .ptr 71,
  .int .i64,
  .other,
  .fn,
  .ptr 55,
  .other,
  .fn,
  .fn,
  .int .u64,
  .fn,
  .fn,
  .fn,
  .fn,
  .fn,
  .fn,
  .fn,
  .fn,
  .st [(0, 35), (1, 3)] 2 [(some .u8), none] [.nils, (.int .i64 0)] false,
  .st [(0, 35), (1, 3)] 2 [(some .u8), none] [.nils, (.int .i64 0)] false,
  .fn,
  .other,
  .fn,
  .other,
  .fn,
  .fn,
  .fn,
  .fn,
  .fn,
  .fn,
  .fn,
  .fn,
  .st [(0, 35), (1, 4)] 2 [(some .u8), none] [.nils, (.bool false)] false,
  .st [(0, 35), (1, 4)] 2 [(some .u8), none] [.nils, (.bool false)] false,
  .st [(0, 69), (2, 3)] 3 [(some .u8), none, none] [.nils, (.bool false), (.int .i64 0)] false,
  .st [(0, 69), (2, 3)] 3 [(some .u8), none, none] [.nils, (.bool false), (.int .i64 0)] false,
  .ptr 74,
  .st [(0, 69), (2, 3)] 3 [(some .u8), none, none] [.nils, (.bool false), (.int .i64 0)] false,
  .st [(0, 69), (2, 3)] 3 [(some .u8), none, none] [.nils, (.bool false), (.int .i64 0)] false,
  .other,
  .fn,
  .fn,
  .fn,
  .fn,
  .fn,
  .sl (.int .i64) 2 1 8,
  .fn,
  .other,
  .fn,
  .other,
  .fn,
  .fn,
  .sl (.int .i64) 3 1 8,
  .other,
  .fn,
  .fn,
  .fn,
  .fn,
  .other,
  .fn,
  .fn,
  .fn,
  .fn,
  .fn,
  .sl .val 32 3 32,
  .fn,
  .fn,
  .ptr 105,
  .st [(0, 35), (1, 3)] 2 [(some .u8), none] [.nils, (.int .i64 0)] false,
  .st [(0, 35), (1, 3)] 2 [(some .u8), none] [.nils, (.int .i64 0)] false,
  .other,
  .fn,
  .other,
  .fn,
  .fn,
  .fn,
  .fn,
  .fn,
  .fn,
  .fn,
  .fn,
  .fn,
  .fn,
  .fn,
  .fn,
  .fn,
  .fn,
  .fn,
  .fn,
  .other,
  .fn,
  .fn,
  .fn,
  .fn,
  .st [(0, 24), (6, 3)] 7 [none, none, none, none, none, (some .pat), none] [(.int .i64 0), (.str []), (.str []), (.int .i64 0), (.int .i64 0), .nils, (.int .i64 0)] false,
  .st [(0, 24), (6, 3)] 7 [none, none, none, none, none, (some .pat), none] [(.int .i64 0), (.str []), (.str []), (.int .i64 0), (.int .i64 0), .nils, (.int .i64 0)] false,
  .fn,
  .fn,
  .sl .use 137 3 40,
  .fn,
  .st [(0, 9), (1, 9), (2, 3)] 3 [none, none, none] [(.str []), (.str []), (.int .i64 0)] true,
  .st [(0, 9), (1, 9), (2, 3)] 3 [none, none, none] [(.str []), (.str []), (.int .i64 0)] true,
  .fn,
  .fn,
  .other,
  .fn,
  .other,
  .fn,
  .fn,
  .fn,
  .fn,
  .ptr 69,
  .int .u64,
  .other,
  .fn,
  .other,
  .other,
  .fn,
  .fn,
  .fn,
  .fn,
  .fn,
  .fn,
  .fn,
  .mp .str .pat 9 24,
  .mp .str .pat 9 24,
  .other,
  .fn,
  .fn,
  .other,
  .fn,
  .other,
  .fn,
  .fn,
  .fn,
  .fn,
  .fn,
  .fn,
  .st [(0, 17), (1, 17), (2, 17), (3, 9)] 4 [none, none, none, none] [.nilp, .nilp, .nilp, (.str [])] false,
  .st [(0, 17), (1, 17), (2, 17), (3, 9)] 4 [none, none, none, none] [.nilp, .nilp, .nilp, (.str [])] false,
  .other,
  .other,
  .other,
  .int .u32,
  .int .u8,
  .int .u8,
  .fn,
  .ptr 5,
  .int .i32,
  .int .i32,
  .st [(0, 12), (1, 12), (2, 179), (3, 180), (4, 5), (5, 5), (6, 181), (7, 182), (8, 183), (9, 184), (10, 185)] 11 [none, none, none, none, none, none, none, none, none, none, none] [(.int .u64 0), (.int .u64 0), (.int .u32 0), (.int .u8 0), (.int .u8 0), (.int .u8 0), (.int .u8 0), .nilf, .nilp, (.int .i32 0), (.int .i32 0)] false,
  .st [(0, 12), (1, 12), (2, 179), (3, 180), (4, 5), (5, 5), (6, 181), (7, 182), (8, 183), (9, 184), (10, 185)] 11 [none, none, none, none, none, none, none, none, none, none, none] [(.int .u64 0), (.int .u64 0), (.int .u32 0), (.int .u8 0), (.int .u8 0), (.int .u8 0), (.int .u8 0), .nilf, .nilp, (.int .i32 0), (.int .i32 0)] false,
  .other]
def res : List VSh := [.tup [],
  .tup [],
  .tup [],
  .one (.v .bool),
  .one (.v .bool),
  .one (.v .bool),
  .one (.v .bool),
  .one (.v .bool),
  .one (.v .bool),
  .one (.v .bool),
  .one (.v .bool),
  .one (.v .bool),
  .one (.v .bool),
  .one (.v .bool),
  .one (.v .bool),
  .one (.v .bool),
  .one (.v .bool),
  .one (.v (.dat .pat)),
  .one (.v (.dat .pat)),
  .one (.v (.int .i64)),
  .one (.v .bool),
  .tup [.c .undef, .v (.int .i64)],
  .tup [.c .undef, .v (.int .i64)],
  .one (.v .bool),
  .one (.v (.int .i64)),
  .one (.v (.int .i64)),
  .one (.v (.int .i64)),
  .one (.v (.int .i64)),
  .one (.v (.int .i64)),
  .one (.v (.int .i64)),
  .one (.v (.int .i64)),
  .one (.v (.int .i64)),
  .one (.v (.sl .u8)),
  .tup [.v .str, .v (.int .i64)],
  .tup [.v .str, .v (.int .i64)],
  .one (.v .bool),
  .one (.v .bool),
  .one (.v (.int .i64)),
  .one (.v .bool),
  .one (.v .bool),
  .one (.v (.dat .val)),
  .one (.v (.dat .val)),
  .one (.v (.dat .val)),
  .one (.v (.dat .val)),
  .one (.v (.dat .val)),
  .one (.v (.dat .val)),
  .one (.v (.dat .val)),
  .tup [.v (.int .u8), .v (.int .i64)],
  .tup [.v .str, .v (.int .i64)],
  .one (.v (.int .i64)),
  .one (.v (.int .i64)),
  .one (.c .undef),
  .tup [.v (.int .u64), .v (.int .i64)],
  .tup [.v (.int .i64), .v (.int .i64)],
  .tup [.v (.dat .pat), .v .bool],
  .one (.v (.int .i64)),
  .one (.v .bool),
  .tup [.v (.dat .pat), .v .bool],
  .one (.v (.int .i64)),
  .tup [.v (.sl .str), .v (.sl .str), .v (.sl (.int .i64))],
  .tup [.v (.sl .str), .v (.sl .str), .v (.sl (.int .i64))],
  .tup [.v (.dat .pat), .v .bool],
  .tup [.v (.dat .pat), .v .bool],
  .one (.v .bool),
  .one (.v (.int .i64)),
  .one (.v (.int .i64)),
  .one (.v (.int .i64)),
  .one (.v (.int .i64)),
  .one (.v (.int .i64)),
  .one (.v (.int .i64)),
  .one (.v (.int .i64)),
  .one (.v (.int .i64)),
  .tup [.v (.dat .val), .v (.int .i64)],
  .tup [.v (.dat .val), .v (.int .i64)],
  .one (.v (.int .i64)),
  .one (.v .bool),
  .one (.v .str),
  .one (.v (.int .i64)),
  .one (.v (.int .i64)),
  .one (.v (.int .i64)),
  .one (.v .bool),
  .one (.v .bool),
  .one (.v (.int .i64)),
  .one (.v (.sl .u8)),
  .one (.v (.int .i64)),
  .one (.v (.sl .u8)),
  .one (.v (.int .u64)),
  .one (.v (.sl .u8)),
  .one (.v .str),
  .tup [.v .str, .v (.int .i64)],
  .one (.v .str),
  .tup [.v .str, .v (.int .i64)],
  .one (.v (.int .i64)),
  .tup [.v (.int .u64), .v (.int .i64), .v (.int .i64)],
  .one (.v (.int .i64)),
  .one (.c .undef),
  .one (.v .bool),
  .one (.v .bool),
  .one (.v .bool),
  .one (.v .bool),
  .one (.v (.sl .use)),
  .one (.v .bool),
  .one (.v .bool),
  .one (.v .bool),
  .one (.v (.int .u8)),
  .tup [.v (.dat .val), .v (.int .i64)],
  .tup [.v (.int .u8), .v (.int .i64)],
  .tup [.v (.int .i64), .v (.int .i64)],
  .tup [.v .str, .v (.int .i64)],
  .one (.v .bool),
  .one (.v .bool),
  .one (.v .bool),
  .one (.v (.int .i64)),
  .one (.v (.int .u64)),
  .one (.c .undef),
  .one (.c .undef),
  .one (.v .bool),
  .one (.v .str),
  .tup [.v (.int .u64), .v (.int .i64), .v (.int .i64)],
  .tup [],
  .one (.v .bool),
  .one (.v .bool),
  .one (.v .bool),
  .one (.v .bool),
  .one (.v .bool),
  .tup [.c .undef, .v .bool],
  .one (.v .bool),
  .one (.v .bool),
  .one (.v .bool),
  .one (.v .bool),
  .tup [.v (.int .i64), .v (.int .i64), .v (.int .i64)],
  .tup [.v (.int .u64), .v (.int .i64), .v (.int .i64)],
  .one (.v .bool),
  .one (.v .bool),
  .one (.v .bool),
  .one (.v .bool),
  .one (.v (.int .i64)),
  .one (.v .bool),
  .one (.v .bool),
  .one (.v .bool),
  .one (.v (.int .i64)),
  .one (.v .bool),
  .one (.v .bool),
  .one (.v .bool),
  .one (.v .str),
  .tup [],
  .one (.v .str),
  .tup [],
  .one (.v .str),
  .tup [],
  .one (.v .str),
  .tup [],
  .one (.v .str),
  .tup [],
  .one (.v .str),
  .tup [],
  .one (.v (.int .i64)),
  .one (.v .str),
  .tup [],
  .one (.v (.int .i64)),
  .one (.v .str)]
def rty : Nat → List AVal → List AObj → List FSh
  | 95, _, _ => [⟨[.box [.v (.int .i64), .v .str, .v .str, .v (.int .i64), .v (.int .i64), .v (.sl .pat)]], .one (.c (.clo 119 [0]))⟩]
  | f, _, objs => shapes res f objs
def mask : Nat → List Nat → Option (List Nat)
  | 16, [1, 1] => some [2, 3]
  | 16, [1, 1, 0, 1, 0] => some [2, 3, 5]
  | 16, [1, 1, 0, 1, 0, 0, 1] => some [2, 3, 5]
  | 17, [1, 0, 1, 1] => some [1, 2, 3, 6, 7, 27]
  | 17, [1, 1] => some [1, 2, 3, 6]
  | 17, [1, 1, 1, 0, 1, 0] => some [1, 2, 3, 6, 8, 34, 35, 36]
  | 18, [1, 1, 0, 1] => some [1, 2, 3, 6, 7, 22]
  | 18, [1, 1, 1] => some [1, 2, 3, 6, 7]
  | 18, [1, 1, 1, 1, 0, 1, 0] => some [1, 2, 3, 6, 7, 8]
  | 67, [1, 1, 0, 1, 0] => some [1, 3, 4]
  | 74, [1, 0, 1, 0] => some [0, 1, 7, 8]
  | 76, [1, 0, 1, 0] => some [0, 1, 2, 7]
  | _, _ => none
noncomputable def cx : Cx := { prog := Go.Proofs.Try.prog, kinds := kinds, rty := rty, mutp := fun _ _ => false, mask := mask }
noncomputable def law12_PatRenames (k : Nat) (p : Pat) (from_ : List Bytes) (to_ : List Bytes) : Option (Bool × Unit) := acall cx k 3 [.agg (cells .pat p), .sl .str false from_, .sl .str false to_] []
noncomputable def law12_light (k : Nat) (p : Pat) : Option (Bool × Unit) := acall cx k 14 [.agg (cells .pat p)] []
noncomputable def law12_awake (k : Nat) : Option (Bool × Unit) := acall cx k 15 [] []
noncomputable def pat_Rename (k : Nat) (p : Pat) (from_ : List Bytes) (to_ : List Bytes) : Option (Pat × Unit) := acall cx k 17 [.agg (cells .pat p), .sl .str false from_, .sl .str false to_] []
def pat_Rename_j0_st (p : Pat) (from_ : List Bytes) (to_ : List Bytes) (r : (Int × Unit)) (t27 : Bool) : St := { tmps := [.undef, .sl .str false from_, .sl .str false to_, .ptr 0 0, .undef, .undef, .ptr 1 0, .int .i64 r.1, .undef, .undef, .undef, .undef, .undef, .undef, .undef, .undef, .undef, .undef, .undef, .undef, .undef, .undef, .undef, .undef, .undef, .undef, .undef, .bool t27, .undef, .undef, .undef, .undef, .undef, .undef, .undef, .undef, .undef, .undef, .undef, .undef, .undef, .undef, .undef, .undef, .undef, .undef, .undef, .undef, .undef, .undef, .undef], objs := [.box (cells .pat p), .box [.int .i64 0, .str ([] : Bytes), .str ([] : Bytes), .int .i64 0, .int .i64 0, .own 2], .arr .pat false ([] : List Pat)] }
noncomputable def pat_Rename_j0 (k : Nat) (p : Pat) (from_ : List Bytes) (to_ : List Bytes) (r : (Int × Unit)) (t27 : Bool) : Option (Pat × Unit) := aresume cx k 17 [.agg (cells .pat p), .sl .str false from_, .sl .str false to_] [] [1, 0, 1, 1] [] (pat_Rename_j0_st p from_ to_ r t27)
def pat_Rename_j1_st (p : Pat) (from_ : List Bytes) (to_ : List Bytes) (p_1 : Bytes) : St := { tmps := [.undef, .sl .str false from_, .sl .str false to_, .ptr 0 0, .undef, .undef, .ptr 1 0, .undef, .undef, .undef, .undef, .undef, .undef, .undef, .undef, .undef, .undef, .undef, .undef, .undef, .undef, .undef, .undef, .undef, .undef, .undef, .undef, .undef, .undef, .undef, .undef, .undef, .undef, .undef, .undef, .undef, .undef, .undef, .undef, .undef, .undef, .undef, .undef, .undef, .undef, .undef, .undef, .undef, .undef, .undef, .undef], objs := [.box [.int .i64 p.k, .str p_1, .str p.type, .int .i64 p.lo, .int .i64 p.hi, .sl .pat false p.l], .box [.int .i64 0, .str ([] : Bytes), .str ([] : Bytes), .int .i64 0, .int .i64 0, .own 2], .arr .pat false ([] : List Pat)] }
noncomputable def pat_Rename_j1 (k : Nat) (p : Pat) (from_ : List Bytes) (to_ : List Bytes) (p_1 : Bytes) : Option (Pat × Unit) := aresume cx k 17 [.agg (cells .pat p), .sl .str false from_, .sl .str false to_] [] [1, 1] [] (pat_Rename_j1_st p from_ to_ p_1)
def pat_Rename_l0_st (p : Pat) (from_ : List Bytes) (to_ : List Bytes) (p_1 : Bytes) (t36 : Int) (l : List Pat) : St := { tmps := [.undef, .sl .str false from_, .sl .str false to_, .ptr 0 0, .undef, .undef, .ptr 1 0, .undef, .own 2, .undef, .undef, .undef, .undef, .undef, .undef, .undef, .undef, .undef, .undef, .undef, .undef, .undef, .undef, .undef, .undef, .undef, .undef, .undef, .undef, .undef, .undef, .undef, .undef, .undef, .sl .pat false p.l, .int .i64 ((List.length p.l : Nat) : Int), .int .i64 t36, .undef, .undef, .undef, .undef, .undef, .undef, .undef, .undef, .undef, .undef, .undef, .undef, .undef, .undef], objs := [.box [.int .i64 p.k, .str p_1, .str p.type, .int .i64 p.lo, .int .i64 p.hi, .sl .pat false p.l], .box [.int .i64 0, .str ([] : Bytes), .str ([] : Bytes), .int .i64 0, .int .i64 0, .own 3], .arr .pat false l, .arr .pat false ([] : List Pat)] }
noncomputable def pat_Rename_l0 (k : Nat) (n : Nat) (p : Pat) (from_ : List Bytes) (to_ : List Bytes) (p_1 : Bytes) (t36 : Int) (l : List Pat) : Option (Pat × Unit) := aresume cx k 17 [.agg (cells .pat p), .sl .str false from_, .sl .str false to_] [] [1, 1, 1, 0, 1, 0] [n] (pat_Rename_l0_st p from_ to_ p_1 t36 l)
noncomputable def ref12_Rename (k : Nat) (p : Pat) (from_ : List Bytes) (to_ : List Bytes) : Option (Pat × Unit) := acall cx k 18 [.agg (cells .pat p), .sl .str false from_, .sl .str false to_] []
def ref12_Rename_j0_st (p : Pat) (from_ : List Bytes) (to_ : List Bytes) (t22 : Bool) : St := { tmps := [.undef, .sl .str false from_, .sl .str false to_, .ptr 0 0, .undef, .undef, .ptr 1 0, .ptr 2 0, .undef, .undef, .undef, .undef, .undef, .undef, .undef, .undef, .undef, .undef, .undef, .undef, .undef, .undef, .bool t22, .undef, .undef, .undef, .undef, .undef, .undef, .undef, .undef, .undef, .undef, .undef, .undef, .undef, .undef, .undef, .undef, .undef, .undef, .undef, .undef, .undef, .undef, .undef, .undef, .undef, .undef, .undef, .undef], objs := [.box (cells .pat p), .box [.int .i64 0, .str ([] : Bytes), .str ([] : Bytes), .int .i64 0, .int .i64 0, .own 3], .box (cells .pat p), .arr .pat false ([] : List Pat)] }
noncomputable def ref12_Rename_j0 (k : Nat) (p : Pat) (from_ : List Bytes) (to_ : List Bytes) (t22 : Bool) : Option (Pat × Unit) := aresume cx k 18 [.agg (cells .pat p), .sl .str false from_, .sl .str false to_] [] [1, 1, 0, 1] [] (ref12_Rename_j0_st p from_ to_ t22)
def ref12_Rename_j1_st (p : Pat) (from_ : List Bytes) (to_ : List Bytes) (x_1 : Bytes) : St := { tmps := [.undef, .sl .str false from_, .sl .str false to_, .ptr 0 0, .undef, .undef, .ptr 1 0, .ptr 2 0, .undef, .undef, .undef, .undef, .undef, .undef, .undef, .undef, .undef, .undef, .undef, .undef, .undef, .undef, .undef, .undef, .undef, .undef, .undef, .undef, .undef, .undef, .undef, .undef, .undef, .undef, .undef, .undef, .undef, .undef, .undef, .undef, .undef, .undef, .undef, .undef, .undef, .undef, .undef, .undef, .undef, .undef, .undef], objs := [.box (cells .pat p), .box [.int .i64 0, .str ([] : Bytes), .str ([] : Bytes), .int .i64 0, .int .i64 0, .own 3], .box [.int .i64 p.k, .str x_1, .str p.type, .int .i64 p.lo, .int .i64 p.hi, .sl .pat false p.l], .arr .pat false ([] : List Pat)] }
noncomputable def ref12_Rename_j1 (k : Nat) (p : Pat) (from_ : List Bytes) (to_ : List Bytes) (x_1 : Bytes) : Option (Pat × Unit) := aresume cx k 18 [.agg (cells .pat p), .sl .str false from_, .sl .str false to_] [] [1, 1, 1] [] (ref12_Rename_j1_st p from_ to_ x_1)
def ref12_Rename_l0_st (p : Pat) (from_ : List Bytes) (to_ : List Bytes) (x_1 : Bytes) : St := { tmps := [.undef, .sl .str false from_, .sl .str false to_, .ptr 0 0, .undef, .undef, .ptr 1 0, .ptr 2 0, .int .i64 0, .undef, .undef, .undef, .undef, .undef, .undef, .undef, .undef, .undef, .undef, .undef, .undef, .undef, .undef, .undef, .undef, .undef, .undef, .undef, .undef, .undef, .undef, .undef, .undef, .undef, .undef, .undef, .undef, .undef, .undef, .undef, .undef, .undef, .undef, .undef, .undef, .undef, .undef, .undef, .undef, .undef, .undef], objs := [.box (cells .pat p), .box [.int .i64 0, .str ([] : Bytes), .str ([] : Bytes), .int .i64 0, .int .i64 0, .own 3], .box [.int .i64 p.k, .str x_1, .str p.type, .int .i64 p.lo, .int .i64 p.hi, .nils], .arr .pat false ([] : List Pat)] }
noncomputable def ref12_Rename_l0 (k : Nat) (n : Nat) (p : Pat) (from_ : List Bytes) (to_ : List Bytes) (x_1 : Bytes) : Option (Pat × Unit) := aresume cx k 18 [.agg (cells .pat p), .sl .str false from_, .sl .str false to_] [] [1, 1, 1, 1, 0, 1, 0] [n] (ref12_Rename_l0_st p from_ to_ x_1)
def ref12_Rename_l1_st (p : Pat) (from_ : List Bytes) (to_ : List Bytes) (x_1 : Bytes) (i : Int) (x_5 : List Pat) : St := { tmps := [.undef, .sl .str false from_, .sl .str false to_, .ptr 0 0, .undef, .undef, .ptr 1 0, .ptr 2 0, .int .i64 i, .undef, .undef, .undef, .undef, .undef, .undef, .undef, .undef, .undef, .undef, .undef, .undef, .undef, .undef, .undef, .undef, .undef, .undef, .undef, .undef, .undef, .undef, .undef, .undef, .undef, .undef, .undef, .undef, .undef, .undef, .undef, .undef, .undef, .undef, .undef, .undef, .undef, .undef, .undef, .undef, .undef, .undef], objs := [.box (cells .pat p), .box [.int .i64 0, .str ([] : Bytes), .str ([] : Bytes), .int .i64 0, .int .i64 0, .own 3], .box [.int .i64 p.k, .str x_1, .str p.type, .int .i64 p.lo, .int .i64 p.hi, .own 4], .arr .pat false ([] : List Pat), .arr .pat false x_5] }
noncomputable def ref12_Rename_l1 (k : Nat) (n : Nat) (p : Pat) (from_ : List Bytes) (to_ : List Bytes) (x_1 : Bytes) (i : Int) (x_5 : List Pat) : Option (Pat × Unit) := aresume cx k 18 [.agg (cells .pat p), .sl .str false from_, .sl .str false to_] [] [1, 1, 1, 1, 0, 1, 0] [n] (ref12_Rename_l1_st p from_ to_ x_1 i x_5)
noncomputable def ref12_Same (k : Nat) (a : Pat) (b : Pat) : Option (Bool × Unit) := acall cx k 16 [.agg (cells .pat a), .agg (cells .pat b)] []
def ref12_Same_j0_st (a : Pat) (b : Pat) : St := { tmps := [.undef, .undef, .ptr 0 0, .ptr 1 0, .undef, .undef, .undef, .undef, .undef, .undef, .undef, .undef, .undef, .undef, .undef, .undef, .undef, .undef, .undef, .undef, .undef, .undef, .undef, .undef, .undef, .undef, .undef, .undef, .undef, .undef, .undef, .undef, .undef, .undef, .undef, .undef, .undef, .undef, .undef, .undef, .undef, .undef, .undef, .undef, .undef, .undef, .undef, .undef, .undef, .undef, .undef, .undef, .undef, .undef, .undef, .undef, .undef, .undef, .undef, .undef, .undef, .undef, .undef, .undef, .undef, .undef, .undef, .undef, .undef, .undef, .undef, .undef, .undef, .undef], objs := [.box (cells .pat a), .box (cells .pat b)] }
noncomputable def ref12_Same_j0 (k : Nat) (a : Pat) (b : Pat) : Option (Bool × Unit) := aresume cx k 16 [.agg (cells .pat a), .agg (cells .pat b)] [] [1, 1] [] (ref12_Same_j0_st a b)
def ref12_Same_l0_st (a : Pat) (b : Pat) (i : Int) : St := { tmps := [.undef, .undef, .ptr 0 0, .ptr 1 0, .undef, .int .i64 i, .undef, .undef, .undef, .undef, .undef, .undef, .undef, .undef, .undef, .undef, .undef, .undef, .undef, .undef, .undef, .undef, .undef, .undef, .undef, .undef, .undef, .undef, .undef, .undef, .undef, .undef, .undef, .undef, .undef, .undef, .undef, .undef, .undef, .undef, .undef, .undef, .undef, .undef, .undef, .undef, .undef, .undef, .undef, .undef, .undef, .undef, .undef, .undef, .undef, .undef, .undef, .undef, .undef, .undef, .undef, .undef, .undef, .undef, .undef, .undef, .undef, .undef, .undef, .undef, .undef, .undef, .undef, .undef], objs := [.box (cells .pat a), .box (cells .pat b)] }
noncomputable def ref12_Same_l0 (k : Nat) (n : Nat) (a : Pat) (b : Pat) (i : Int) : Option (Bool × Unit) := aresume cx k 16 [.agg (cells .pat a), .agg (cells .pat b)] [] [1, 1, 0, 1, 0] [n] (ref12_Same_l0_st a b i)
def ref12_Same_j1_st (a : Pat) (b : Pat) (i : Int) : St := { tmps := [.undef, .undef, .ptr 0 0, .ptr 1 0, .undef, .int .i64 i, .undef, .undef, .undef, .undef, .undef, .undef, .undef, .undef, .undef, .undef, .undef, .undef, .undef, .undef, .undef, .undef, .undef, .undef, .undef, .undef, .undef, .undef, .undef, .undef, .undef, .undef, .undef, .undef, .undef, .undef, .undef, .undef, .undef, .undef, .undef, .undef, .undef, .undef, .undef, .undef, .undef, .undef, .undef, .undef, .undef, .undef, .undef, .undef, .undef, .undef, .undef, .undef, .undef, .undef, .undef, .undef, .undef, .undef, .undef, .undef, .undef, .undef, .undef, .undef, .undef, .undef, .undef, .undef], objs := [.box (cells .pat a), .box (cells .pat b)] }
noncomputable def ref12_Same_j1 (k : Nat) (r0 : Nat) (a : Pat) (b : Pat) (i : Int) : Option (Bool × Unit) := aresume cx k 16 [.agg (cells .pat a), .agg (cells .pat b)] [] [1, 1, 0, 1, 0, 0, 1] [r0] (ref12_Same_j1_st a b i)
noncomputable def ref12_Size (k : Nat) (p : Pat) : Option (Int × Unit) := acall cx k 67 [.agg (cells .pat p)] []
def ref12_Size_l0_st (p : Pat) (n_ : Int) (i : Int) : St := { tmps := [.undef, .ptr 0 0, .undef, .int .i64 n_, .int .i64 i, .undef, .undef, .undef, .undef, .undef, .undef, .undef, .undef, .undef, .undef, .undef, .undef, .undef, .undef, .undef, .undef], objs := [.box (cells .pat p)] }
noncomputable def ref12_Size_l0 (k : Nat) (n : Nat) (p : Pat) (n_ : Int) (i : Int) : Option (Int × Unit) := aresume cx k 67 [.agg (cells .pat p)] [] [1, 1, 0, 1, 0] [n] (ref12_Size_l0_st p n_ i)
noncomputable def slices_Index_string (k : Nat) (s : List Bytes) (v : Bytes) : Option (Int × Unit) := acall cx k 74 [.sl .str false s, .str v] []
def slices_Index_string_l0_st (s : List Bytes) (v : Bytes) (t8 : Int) : St := { tmps := [.sl .str false s, .str v, .undef, .undef, .undef, .undef, .undef, .int .i64 ((List.length s : Nat) : Int), .int .i64 t8, .undef, .undef, .undef, .undef, .undef, .undef, .undef, .undef, .undef, .undef], objs := [] }
noncomputable def slices_Index_string_l0 (k : Nat) (n : Nat) (s : List Bytes) (v : Bytes) (t8 : Int) : Option (Int × Unit) := aresume cx k 74 [.sl .str false s, .str v] [] [1, 0, 1, 0] [n] (slices_Index_string_l0_st s v t8)
noncomputable def pat_isLeaf (k : Nat) (k_ : Int) : Option (Bool × Unit) := acall cx k 75 [.int .i64 k_] []
noncomputable def ref09_Name (k : Nat) (v : Bytes) (from_ : List Bytes) (to_ : List Bytes) : Option (Bytes × Unit) := acall cx k 76 [.str v, .sl .str false from_, .sl .str false to_] []
def ref09_Name_l0_st (v : Bytes) (from_ : List Bytes) (to_ : List Bytes) (i : Int) : St := { tmps := [.str v, .sl .str false from_, .sl .str false to_, .undef, .undef, .undef, .undef, .int .i64 i, .undef, .undef, .undef, .undef, .undef, .undef, .undef, .undef, .undef, .undef, .undef, .undef, .undef, .undef, .undef, .undef, .undef, .undef, .undef, .undef, .undef, .undef], objs := [] }
noncomputable def ref09_Name_l0 (k : Nat) (n : Nat) (v : Bytes) (from_ : List Bytes) (to_ : List Bytes) (i : Int) : Option (Bytes × Unit) := aresume cx k 76 [.str v, .sl .str false from_, .sl .str false to_] [] [1, 0, 1, 0] [n] (ref09_Name_l0_st v from_ to_ i)
theorem law12_PatRenames_seg (k : Nat) (p : Pat) (from_ : List Bytes) (to_ : List Bytes) (C : List Nat → List Nat → St → Option (Bool × Unit)) : scall cx k 3 [.agg (cells .pat p), .sl .str false from_, .sl .str false to_] [] C = ((law12_light k p).bind fun r => (bif (!r.1) then ((law12_awake k).bind fun r1 => some (r1.1, ())) else ((pat_Rename k p from_ to_).bind fun r1 => ((ref12_Rename k p from_ to_).bind fun r2 => ((ref12_Same k r1.1 r2.1).bind fun r3 => (bif (r3.1 == true) then ((law12_awake k).bind fun r4 => some (r4.1, ())) else some (false, ()))))))) := by kernel_rfl
theorem law12_PatRenames_eq (k : Nat) (p : Pat) (from_ : List Bytes) (to_ : List Bytes) : law12_PatRenames (k+1) p from_ to_ = ((law12_light k p).bind fun r => (bif (!r.1) then ((law12_awake k).bind fun r1 => some (r1.1, ())) else ((pat_Rename k p from_ to_).bind fun r1 => ((ref12_Rename k p from_ to_).bind fun r2 => ((ref12_Same k r1.1 r2.1).bind fun r3 => (bif (r3.1 == true) then ((law12_awake k).bind fun r4 => some (r4.1, ())) else some (false, ()))))))) := (acall_eq k 3 [.agg (cells .pat p), .sl .str false from_, .sl .str false to_] []).trans (law12_PatRenames_seg k p from_ to_ _)
theorem law12_light_seg (k : Nat) (p : Pat) (C : List Nat → List Nat → St → Option (Bool × Unit)) : scall cx k 14 [.agg (cells .pat p)] [] C = ((ref12_Size k p).bind fun r => some (decide (r.1 ≤ 300), ())) := by kernel_rfl
theorem law12_light_eq (k : Nat) (p : Pat) : law12_light (k+1) p = ((ref12_Size k p).bind fun r => some (decide (r.1 ≤ 300), ())) := (acall_eq k 14 [.agg (cells .pat p)] []).trans (law12_light_seg k p _)
theorem pat_Rename_seg (k : Nat) (p : Pat) (from_ : List Bytes) (to_ : List Bytes) (C : List Nat → List Nat → St → Option (Pat × Unit)) : scall cx k 17 [.agg (cells .pat p), .sl .str false from_, .sl .str false to_] [] C = ((slices_Index_string k from_ p.var).bind fun r => ((pat_isLeaf k p.k).bind fun r1 => (bif (r1.1 == true) then (bif (decide (r.1 ≥ 0) == true) then C [1, 0, 1, 1] [] (pat_Rename_j0_st p from_ to_ r (decide (r.1 < ((List.length to_ : Nat) : Int)))) else C [1, 0, 1, 1] [] (pat_Rename_j0_st p from_ to_ r false)) else C [1, 0, 1, 1] [] (pat_Rename_j0_st p from_ to_ r false)))) := by kernel_rfl
theorem pat_Rename_eq (k : Nat) (p : Pat) (from_ : List Bytes) (to_ : List Bytes) : pat_Rename (k+1) p from_ to_ = ((slices_Index_string k from_ p.var).bind fun r => ((pat_isLeaf k p.k).bind fun r1 => (bif (r1.1 == true) then (bif (decide (r.1 ≥ 0) == true) then pat_Rename_j0 k p from_ to_ r (decide (r.1 < ((List.length to_ : Nat) : Int))) else pat_Rename_j0 k p from_ to_ r false) else pat_Rename_j0 k p from_ to_ r false))) := (acall_eq k 17 [.agg (cells .pat p), .sl .str false from_, .sl .str false to_] []).trans (pat_Rename_seg k p from_ to_ _)
theorem pat_Rename_j0_seg (k : Nat) (p : Pat) (from_ : List Bytes) (to_ : List Bytes) (r : (Int × Unit)) (t27 : Bool) (C : List Nat → List Nat → St → Option (Pat × Unit)) : sresume cx k 17 [.agg (cells .pat p), .sl .str false from_, .sl .str false to_] [] [1, 0, 1, 1] [] (pat_Rename_j0_st p from_ to_ r t27) C = (bif t27 then ((idx to_ r.1).bind fun d => C [1, 1] [] (pat_Rename_j1_st p from_ to_ d)) else C [1, 1] [] (pat_Rename_j1_st p from_ to_ p.var)) := by kernel_rfl
theorem pat_Rename_j0_eq (k : Nat) (p : Pat) (from_ : List Bytes) (to_ : List Bytes) (r : (Int × Unit)) (t27 : Bool) : pat_Rename_j0 k p from_ to_ r t27 = (bif t27 then ((idx to_ r.1).bind fun d => pat_Rename_j1 k p from_ to_ d) else pat_Rename_j1 k p from_ to_ p.var) := (aresume_eq (cx := cx) k 17 [.agg (cells .pat p), .sl .str false from_, .sl .str false to_] [] [1, 0, 1, 1] [] (pat_Rename_j0_st p from_ to_ r t27)).trans (pat_Rename_j0_seg k p from_ to_ r t27 _)
theorem pat_Rename_j1_seg (k : Nat) (p : Pat) (from_ : List Bytes) (to_ : List Bytes) (p_1 : Bytes) (C : List Nat → List Nat → St → Option (Pat × Unit)) : sresume cx k 17 [.agg (cells .pat p), .sl .str false from_, .sl .str false to_] [] [1, 1] [] (pat_Rename_j1_st p from_ to_ p_1) C = C [1, 1, 1, 0, 1, 0] [k] (pat_Rename_l0_st p from_ to_ p_1 0 ([] : List Pat)) := by kernel_rfl
theorem pat_Rename_j1_eq (k : Nat) (p : Pat) (from_ : List Bytes) (to_ : List Bytes) (p_1 : Bytes) : pat_Rename_j1 k p from_ to_ p_1 = pat_Rename_l0 k k p from_ to_ p_1 0 ([] : List Pat) := (aresume_eq (cx := cx) k 17 [.agg (cells .pat p), .sl .str false from_, .sl .str false to_] [] [1, 1] [] (pat_Rename_j1_st p from_ to_ p_1)).trans (pat_Rename_j1_seg k p from_ to_ p_1 _)
theorem pat_Rename_l0_seg (k : Nat) (n : Nat) (p : Pat) (from_ : List Bytes) (to_ : List Bytes) (p_1 : Bytes) (t36 : Int) (l : List Pat) (C : List Nat → List Nat → St → Option (Pat × Unit)) : sresume cx k 17 [.agg (cells .pat p), .sl .str false from_, .sl .str false to_] [] [1, 1, 1, 0, 1, 0] [n+1] (pat_Rename_l0_st p from_ to_ p_1 t36 l) C = (bif decide (t36 < ((List.length p.l : Nat) : Int)) then ((idx p.l t36).bind fun d => ((pat_Rename k d from_ to_).bind fun r => (bif decide ((List.length l + List.length ([(⟨r.1.k, r.1.var, r.1.type, r.1.lo, r.1.hi, r.1.l⟩ : Pat)] : List Pat)) * 80 ≤ 140737488355328) then C [1, 1, 1, 0, 1, 0] [n] (pat_Rename_l0_st p from_ to_ p_1 (IntKind.i64.wrap (t36 + 1)) (l ++ ([(⟨r.1.k, r.1.var, r.1.type, r.1.lo, r.1.hi, r.1.l⟩ : Pat)] : List Pat))) else none))) else some ((⟨p.k, p_1, p.type, p.lo, p.hi, l⟩ : Pat), ())) := by kernel_rfl
theorem pat_Rename_l0_eq (k : Nat) (n : Nat) (p : Pat) (from_ : List Bytes) (to_ : List Bytes) (p_1 : Bytes) (t36 : Int) (l : List Pat) : pat_Rename_l0 k (n+1) p from_ to_ p_1 t36 l = (bif decide (t36 < ((List.length p.l : Nat) : Int)) then ((idx p.l t36).bind fun d => ((pat_Rename k d from_ to_).bind fun r => (bif decide ((List.length l + List.length ([(⟨r.1.k, r.1.var, r.1.type, r.1.lo, r.1.hi, r.1.l⟩ : Pat)] : List Pat)) * 80 ≤ 140737488355328) then pat_Rename_l0 k n p from_ to_ p_1 (IntKind.i64.wrap (t36 + 1)) (l ++ ([(⟨r.1.k, r.1.var, r.1.type, r.1.lo, r.1.hi, r.1.l⟩ : Pat)] : List Pat)) else none))) else some ((⟨p.k, p_1, p.type, p.lo, p.hi, l⟩ : Pat), ())) := (aresume_eq (cx := cx) k 17 [.agg (cells .pat p), .sl .str false from_, .sl .str false to_] [] [1, 1, 1, 0, 1, 0] [n+1] (pat_Rename_l0_st p from_ to_ p_1 t36 l)).trans (pat_Rename_l0_seg k n p from_ to_ p_1 t36 l _)
theorem ref12_Rename_seg (k : Nat) (p : Pat) (from_ : List Bytes) (to_ : List Bytes) (C : List Nat → List Nat → St → Option (Pat × Unit)) : scall cx k 18 [.agg (cells .pat p), .sl .str false from_, .sl .str false to_] [] C = (bif ((p.k == 1) == false) then (bif ((p.k == 5) == false) then C [1, 1, 0, 1] [] (ref12_Rename_j0_st p from_ to_ (p.k == 6)) else C [1, 1, 0, 1] [] (ref12_Rename_j0_st p from_ to_ true)) else C [1, 1, 0, 1] [] (ref12_Rename_j0_st p from_ to_ true)) := by kernel_rfl
theorem ref12_Rename_eq (k : Nat) (p : Pat) (from_ : List Bytes) (to_ : List Bytes) : ref12_Rename (k+1) p from_ to_ = (bif ((p.k == 1) == false) then (bif ((p.k == 5) == false) then ref12_Rename_j0 k p from_ to_ (p.k == 6) else ref12_Rename_j0 k p from_ to_ true) else ref12_Rename_j0 k p from_ to_ true) := (acall_eq k 18 [.agg (cells .pat p), .sl .str false from_, .sl .str false to_] []).trans (ref12_Rename_seg k p from_ to_ _)
theorem ref12_Rename_j0_seg (k : Nat) (p : Pat) (from_ : List Bytes) (to_ : List Bytes) (t22 : Bool) (C : List Nat → List Nat → St → Option (Pat × Unit)) : sresume cx k 18 [.agg (cells .pat p), .sl .str false from_, .sl .str false to_] [] [1, 1, 0, 1] [] (ref12_Rename_j0_st p from_ to_ t22) C = (bif t22 then ((ref09_Name k p.var from_ to_).bind fun r => C [1, 1, 1] [] (ref12_Rename_j1_st p from_ to_ r.1)) else C [1, 1, 1] [] (ref12_Rename_j1_st p from_ to_ p.var)) := by kernel_rfl
theorem ref12_Rename_j0_eq (k : Nat) (p : Pat) (from_ : List Bytes) (to_ : List Bytes) (t22 : Bool) : ref12_Rename_j0 k p from_ to_ t22 = (bif t22 then ((ref09_Name k p.var from_ to_).bind fun r => ref12_Rename_j1 k p from_ to_ r.1) else ref12_Rename_j1 k p from_ to_ p.var) := (aresume_eq (cx := cx) k 18 [.agg (cells .pat p), .sl .str false from_, .sl .str false to_] [] [1, 1, 0, 1] [] (ref12_Rename_j0_st p from_ to_ t22)).trans (ref12_Rename_j0_seg k p from_ to_ t22 _)
theorem ref12_Rename_j1_seg (k : Nat) (p : Pat) (from_ : List Bytes) (to_ : List Bytes) (x_1 : Bytes) (C : List Nat → List Nat → St → Option (Pat × Unit)) : sresume cx k 18 [.agg (cells .pat p), .sl .str false from_, .sl .str false to_] [] [1, 1, 1] [] (ref12_Rename_j1_st p from_ to_ x_1) C = C [1, 1, 1, 1, 0, 1, 0] [k] (ref12_Rename_l0_st p from_ to_ x_1) := by kernel_rfl
theorem ref12_Rename_j1_eq (k : Nat) (p : Pat) (from_ : List Bytes) (to_ : List Bytes) (x_1 : Bytes) : ref12_Rename_j1 k p from_ to_ x_1 = ref12_Rename_l0 k k p from_ to_ x_1 := (aresume_eq (cx := cx) k 18 [.agg (cells .pat p), .sl .str false from_, .sl .str false to_] [] [1, 1, 1] [] (ref12_Rename_j1_st p from_ to_ x_1)).trans (ref12_Rename_j1_seg k p from_ to_ x_1 _)
theorem ref12_Rename_l0_seg (k : Nat) (n : Nat) (p : Pat) (from_ : List Bytes) (to_ : List Bytes) (x_1 : Bytes) (C : List Nat → List Nat → St → Option (Pat × Unit)) : sresume cx k 18 [.agg (cells .pat p), .sl .str false from_, .sl .str false to_] [] [1, 1, 1, 1, 0, 1, 0] [n+1] (ref12_Rename_l0_st p from_ to_ x_1) C = (bif decide (0 < ((List.length p.l : Nat) : Int)) then ((idx p.l 0).bind fun d => ((ref12_Rename k d from_ to_).bind fun r => (bif decide (List.length ([(⟨r.1.k, r.1.var, r.1.type, r.1.lo, r.1.hi, r.1.l⟩ : Pat)] : List Pat) * 80 ≤ 140737488355328) then C [1, 1, 1, 1, 0, 1, 0] [n] (ref12_Rename_l1_st p from_ to_ x_1 1 ([(⟨r.1.k, r.1.var, r.1.type, r.1.lo, r.1.hi, r.1.l⟩ : Pat)] : List Pat)) else none))) else some ((⟨p.k, x_1, p.type, p.lo, p.hi, ([] : List Pat)⟩ : Pat), ())) := by kernel_rfl
theorem ref12_Rename_l0_eq (k : Nat) (n : Nat) (p : Pat) (from_ : List Bytes) (to_ : List Bytes) (x_1 : Bytes) : ref12_Rename_l0 k (n+1) p from_ to_ x_1 = (bif decide (0 < ((List.length p.l : Nat) : Int)) then ((idx p.l 0).bind fun d => ((ref12_Rename k d from_ to_).bind fun r => (bif decide (List.length ([(⟨r.1.k, r.1.var, r.1.type, r.1.lo, r.1.hi, r.1.l⟩ : Pat)] : List Pat) * 80 ≤ 140737488355328) then ref12_Rename_l1 k n p from_ to_ x_1 1 ([(⟨r.1.k, r.1.var, r.1.type, r.1.lo, r.1.hi, r.1.l⟩ : Pat)] : List Pat) else none))) else some ((⟨p.k, x_1, p.type, p.lo, p.hi, ([] : List Pat)⟩ : Pat), ())) := (aresume_eq (cx := cx) k 18 [.agg (cells .pat p), .sl .str false from_, .sl .str false to_] [] [1, 1, 1, 1, 0, 1, 0] [n+1] (ref12_Rename_l0_st p from_ to_ x_1)).trans (ref12_Rename_l0_seg k n p from_ to_ x_1 _)
theorem ref12_Rename_l1_seg (k : Nat) (n : Nat) (p : Pat) (from_ : List Bytes) (to_ : List Bytes) (x_1 : Bytes) (i : Int) (x_5 : List Pat) (C : List Nat → List Nat → St → Option (Pat × Unit)) : sresume cx k 18 [.agg (cells .pat p), .sl .str false from_, .sl .str false to_] [] [1, 1, 1, 1, 0, 1, 0] [n+1] (ref12_Rename_l1_st p from_ to_ x_1 i x_5) C = (bif decide (i < ((List.length p.l : Nat) : Int)) then ((idx p.l i).bind fun d => ((ref12_Rename k d from_ to_).bind fun r => (bif decide ((List.length x_5 + List.length ([(⟨r.1.k, r.1.var, r.1.type, r.1.lo, r.1.hi, r.1.l⟩ : Pat)] : List Pat)) * 80 ≤ 140737488355328) then C [1, 1, 1, 1, 0, 1, 0] [n] (ref12_Rename_l1_st p from_ to_ x_1 (IntKind.i64.wrap (i + 1)) (x_5 ++ ([(⟨r.1.k, r.1.var, r.1.type, r.1.lo, r.1.hi, r.1.l⟩ : Pat)] : List Pat))) else none))) else some ((⟨p.k, x_1, p.type, p.lo, p.hi, x_5⟩ : Pat), ())) := by kernel_rfl
theorem ref12_Rename_l1_eq (k : Nat) (n : Nat) (p : Pat) (from_ : List Bytes) (to_ : List Bytes) (x_1 : Bytes) (i : Int) (x_5 : List Pat) : ref12_Rename_l1 k (n+1) p from_ to_ x_1 i x_5 = (bif decide (i < ((List.length p.l : Nat) : Int)) then ((idx p.l i).bind fun d => ((ref12_Rename k d from_ to_).bind fun r => (bif decide ((List.length x_5 + List.length ([(⟨r.1.k, r.1.var, r.1.type, r.1.lo, r.1.hi, r.1.l⟩ : Pat)] : List Pat)) * 80 ≤ 140737488355328) then ref12_Rename_l1 k n p from_ to_ x_1 (IntKind.i64.wrap (i + 1)) (x_5 ++ ([(⟨r.1.k, r.1.var, r.1.type, r.1.lo, r.1.hi, r.1.l⟩ : Pat)] : List Pat)) else none))) else some ((⟨p.k, x_1, p.type, p.lo, p.hi, x_5⟩ : Pat), ())) := (aresume_eq (cx := cx) k 18 [.agg (cells .pat p), .sl .str false from_, .sl .str false to_] [] [1, 1, 1, 1, 0, 1, 0] [n+1] (ref12_Rename_l1_st p from_ to_ x_1 i x_5)).trans (ref12_Rename_l1_seg k n p from_ to_ x_1 i x_5 _)
theorem ref12_Same_seg (k : Nat) (a : Pat) (b : Pat) (C : List Nat → List Nat → St → Option (Bool × Unit)) : scall cx k 16 [.agg (cells .pat a), .agg (cells .pat b)] [] C = (bif ((a.k != b.k) == false) then (bif ((!(a.var == b.var)) == false) then (bif ((!(a.type == b.type)) == false) then (bif ((a.lo != b.lo) == false) then (bif ((a.hi != b.hi) == false) then (bif (((List.length a.l : Nat) : Int) != ((List.length b.l : Nat) : Int)) then some (false, ()) else C [1, 1] [] (ref12_Same_j0_st a b)) else some (false, ())) else some (false, ())) else some (false, ())) else some (false, ())) else some (false, ())) := by kernel_rfl
theorem ref12_Same_eq (k : Nat) (a : Pat) (b : Pat) : ref12_Same (k+1) a b = (bif ((a.k != b.k) == false) then (bif ((!(a.var == b.var)) == false) then (bif ((!(a.type == b.type)) == false) then (bif ((a.lo != b.lo) == false) then (bif ((a.hi != b.hi) == false) then (bif (((List.length a.l : Nat) : Int) != ((List.length b.l : Nat) : Int)) then some (false, ()) else ref12_Same_j0 k a b) else some (false, ())) else some (false, ())) else some (false, ())) else some (false, ())) else some (false, ())) := (acall_eq k 16 [.agg (cells .pat a), .agg (cells .pat b)] []).trans (ref12_Same_seg k a b _)
theorem ref12_Same_j0_seg (k : Nat) (a : Pat) (b : Pat) (C : List Nat → List Nat → St → Option (Bool × Unit)) : sresume cx k 16 [.agg (cells .pat a), .agg (cells .pat b)] [] [1, 1] [] (ref12_Same_j0_st a b) C = C [1, 1, 0, 1, 0] [k] (ref12_Same_l0_st a b 0) := by kernel_rfl
theorem ref12_Same_j0_eq (k : Nat) (a : Pat) (b : Pat) : ref12_Same_j0 k a b = ref12_Same_l0 k k a b 0 := (aresume_eq (cx := cx) k 16 [.agg (cells .pat a), .agg (cells .pat b)] [] [1, 1] [] (ref12_Same_j0_st a b)).trans (ref12_Same_j0_seg k a b _)
theorem ref12_Same_l0_seg (k : Nat) (n : Nat) (a : Pat) (b : Pat) (i : Int) (C : List Nat → List Nat → St → Option (Bool × Unit)) : sresume cx k 16 [.agg (cells .pat a), .agg (cells .pat b)] [] [1, 1, 0, 1, 0] [n+1] (ref12_Same_l0_st a b i) C = (bif (decide (i < ((List.length a.l : Nat) : Int)) == true) then (bif decide (i < ((List.length b.l : Nat) : Int)) then C [1, 1, 0, 1, 0, 0, 1] [n] (ref12_Same_j1_st a b i) else some (true, ())) else some (true, ())) := by kernel_rfl
theorem ref12_Same_l0_eq (k : Nat) (n : Nat) (a : Pat) (b : Pat) (i : Int) : ref12_Same_l0 k (n+1) a b i = (bif (decide (i < ((List.length a.l : Nat) : Int)) == true) then (bif decide (i < ((List.length b.l : Nat) : Int)) then ref12_Same_j1 k n a b i else some (true, ())) else some (true, ())) := (aresume_eq (cx := cx) k 16 [.agg (cells .pat a), .agg (cells .pat b)] [] [1, 1, 0, 1, 0] [n+1] (ref12_Same_l0_st a b i)).trans (ref12_Same_l0_seg k n a b i _)
theorem ref12_Same_j1_seg (k : Nat) (r0 : Nat) (a : Pat) (b : Pat) (i : Int) (C : List Nat → List Nat → St → Option (Bool × Unit)) : sresume cx k 16 [.agg (cells .pat a), .agg (cells .pat b)] [] [1, 1, 0, 1, 0, 0, 1] [r0] (ref12_Same_j1_st a b i) C = ((idx a.l i).bind fun d => ((idx b.l i).bind fun d1 => ((ref12_Same k d d1).bind fun r => (bif (!r.1) then some (false, ()) else C [1, 1, 0, 1, 0] [r0] (ref12_Same_l0_st a b (IntKind.i64.wrap (i + 1))))))) := by kernel_rfl
theorem ref12_Same_j1_eq (k : Nat) (r0 : Nat) (a : Pat) (b : Pat) (i : Int) : ref12_Same_j1 k r0 a b i = ((idx a.l i).bind fun d => ((idx b.l i).bind fun d1 => ((ref12_Same k d d1).bind fun r => (bif (!r.1) then some (false, ()) else ref12_Same_l0 k r0 a b (IntKind.i64.wrap (i + 1)))))) := (aresume_eq (cx := cx) k 16 [.agg (cells .pat a), .agg (cells .pat b)] [] [1, 1, 0, 1, 0, 0, 1] [r0] (ref12_Same_j1_st a b i)).trans (ref12_Same_j1_seg k r0 a b i _)
theorem ref12_Size_seg (k : Nat) (p : Pat) (C : List Nat → List Nat → St → Option (Int × Unit)) : scall cx k 67 [.agg (cells .pat p)] [] C = C [1, 1, 0, 1, 0] [k] (ref12_Size_l0_st p 1 0) := by kernel_rfl
theorem ref12_Size_eq (k : Nat) (p : Pat) : ref12_Size (k+1) p = ref12_Size_l0 k k p 1 0 := (acall_eq k 67 [.agg (cells .pat p)] []).trans (ref12_Size_seg k p _)
theorem ref12_Size_l0_seg (k : Nat) (n : Nat) (p : Pat) (n_ : Int) (i : Int) (C : List Nat → List Nat → St → Option (Int × Unit)) : sresume cx k 67 [.agg (cells .pat p)] [] [1, 1, 0, 1, 0] [n+1] (ref12_Size_l0_st p n_ i) C = (bif decide (i < ((List.length p.l : Nat) : Int)) then ((idx p.l i).bind fun d => ((ref12_Size k d).bind fun r => C [1, 1, 0, 1, 0] [n] (ref12_Size_l0_st p (IntKind.i64.wrap (n_ + r.1)) (IntKind.i64.wrap (i + 1))))) else some (n_, ())) := by kernel_rfl
theorem ref12_Size_l0_eq (k : Nat) (n : Nat) (p : Pat) (n_ : Int) (i : Int) : ref12_Size_l0 k (n+1) p n_ i = (bif decide (i < ((List.length p.l : Nat) : Int)) then ((idx p.l i).bind fun d => ((ref12_Size k d).bind fun r => ref12_Size_l0 k n p (IntKind.i64.wrap (n_ + r.1)) (IntKind.i64.wrap (i + 1)))) else some (n_, ())) := (aresume_eq (cx := cx) k 67 [.agg (cells .pat p)] [] [1, 1, 0, 1, 0] [n+1] (ref12_Size_l0_st p n_ i)).trans (ref12_Size_l0_seg k n p n_ i _)
theorem slices_Index_string_seg (k : Nat) (s : List Bytes) (v : Bytes) (C : List Nat → List Nat → St → Option (Int × Unit)) : scall cx k 74 [.sl .str false s, .str v] [] C = C [1, 0, 1, 0] [k] (slices_Index_string_l0_st s v 0) := by kernel_rfl
theorem slices_Index_string_eq (k : Nat) (s : List Bytes) (v : Bytes) : slices_Index_string (k+1) s v = slices_Index_string_l0 k k s v 0 := (acall_eq k 74 [.sl .str false s, .str v] []).trans (slices_Index_string_seg k s v _)
theorem slices_Index_string_l0_seg (k : Nat) (n : Nat) (s : List Bytes) (v : Bytes) (t8 : Int) (C : List Nat → List Nat → St → Option (Int × Unit)) : sresume cx k 74 [.sl .str false s, .str v] [] [1, 0, 1, 0] [n+1] (slices_Index_string_l0_st s v t8) C = (bif decide (t8 < ((List.length s : Nat) : Int)) then ((idx s t8).bind fun d => (bif (v == d) then some (t8, ()) else C [1, 0, 1, 0] [n] (slices_Index_string_l0_st s v (IntKind.i64.wrap (t8 + 1))))) else some ((-1), ())) := by kernel_rfl
theorem slices_Index_string_l0_eq (k : Nat) (n : Nat) (s : List Bytes) (v : Bytes) (t8 : Int) : slices_Index_string_l0 k (n+1) s v t8 = (bif decide (t8 < ((List.length s : Nat) : Int)) then ((idx s t8).bind fun d => (bif (v == d) then some (t8, ()) else slices_Index_string_l0 k n s v (IntKind.i64.wrap (t8 + 1)))) else some ((-1), ())) := (aresume_eq (cx := cx) k 74 [.sl .str false s, .str v] [] [1, 0, 1, 0] [n+1] (slices_Index_string_l0_st s v t8)).trans (slices_Index_string_l0_seg k n s v t8 _)
theorem pat_isLeaf_seg (k : Nat) (k_ : Int) (C : List Nat → List Nat → St → Option (Bool × Unit)) : scall cx k 75 [.int .i64 k_] [] C = (bif ((k_ == 1) == false) then (bif ((k_ == 5) == false) then some ((k_ == 6), ()) else some (true, ())) else some (true, ())) := by kernel_rfl
theorem pat_isLeaf_eq (k : Nat) (k_ : Int) : pat_isLeaf (k+1) k_ = (bif ((k_ == 1) == false) then (bif ((k_ == 5) == false) then some ((k_ == 6), ()) else some (true, ())) else some (true, ())) := (acall_eq k 75 [.int .i64 k_] []).trans (pat_isLeaf_seg k k_ _)
theorem ref09_Name_seg (k : Nat) (v : Bytes) (from_ : List Bytes) (to_ : List Bytes) (C : List Nat → List Nat → St → Option (Bytes × Unit)) : scall cx k 76 [.str v, .sl .str false from_, .sl .str false to_] [] C = C [1, 0, 1, 0] [k] (ref09_Name_l0_st v from_ to_ 0) := by kernel_rfl
theorem ref09_Name_eq (k : Nat) (v : Bytes) (from_ : List Bytes) (to_ : List Bytes) : ref09_Name (k+1) v from_ to_ = ref09_Name_l0 k k v from_ to_ 0 := (acall_eq k 76 [.str v, .sl .str false from_, .sl .str false to_] []).trans (ref09_Name_seg k v from_ to_ _)
theorem ref09_Name_l0_seg (k : Nat) (n : Nat) (v : Bytes) (from_ : List Bytes) (to_ : List Bytes) (i : Int) (C : List Nat → List Nat → St → Option (Bytes × Unit)) : sresume cx k 76 [.str v, .sl .str false from_, .sl .str false to_] [] [1, 0, 1, 0] [n+1] (ref09_Name_l0_st v from_ to_ i) C = (bif decide (i < ((List.length from_ : Nat) : Int)) then ((idx from_ i).bind fun d => (bif (d == v) then (bif decide (i < ((List.length to_ : Nat) : Int)) then ((idx to_ i).bind fun d1 => some (d1, ())) else some (v, ())) else C [1, 0, 1, 0] [n] (ref09_Name_l0_st v from_ to_ (IntKind.i64.wrap (i + 1))))) else some (v, ())) := by kernel_rfl
theorem ref09_Name_l0_eq (k : Nat) (n : Nat) (v : Bytes) (from_ : List Bytes) (to_ : List Bytes) (i : Int) : ref09_Name_l0 k (n+1) v from_ to_ i = (bif decide (i < ((List.length from_ : Nat) : Int)) then ((idx from_ i).bind fun d => (bif (d == v) then (bif decide (i < ((List.length to_ : Nat) : Int)) then ((idx to_ i).bind fun d1 => some (d1, ())) else some (v, ())) else ref09_Name_l0 k n v from_ to_ (IntKind.i64.wrap (i + 1)))) else some (v, ())) := (aresume_eq (cx := cx) k 76 [.str v, .sl .str false from_, .sl .str false to_] [] [1, 0, 1, 0] [n+1] (ref09_Name_l0_st v from_ to_ i)).trans (ref09_Name_l0_seg k n v from_ to_ i _)
theorem law12_PatRenames_def : @law12_PatRenames = fun k p from_ to_ => acall cx k 3 [.agg (cells .pat p), .sl .str false from_, .sl .str false to_] [] := rfl
attribute [irreducible] law12_PatRenames law12_light law12_awake pat_Rename pat_Rename_j0_st pat_Rename_j0 pat_Rename_j1_st pat_Rename_j1 pat_Rename_l0_st pat_Rename_l0 ref12_Rename ref12_Rename_j0_st ref12_Rename_j0 ref12_Rename_j1_st ref12_Rename_j1 ref12_Rename_l0_st ref12_Rename_l0 ref12_Rename_l1_st ref12_Rename_l1 ref12_Same ref12_Same_j0_st ref12_Same_j0 ref12_Same_l0_st ref12_Same_l0 ref12_Same_j1_st ref12_Same_j1 ref12_Size ref12_Size_l0_st ref12_Size_l0 slices_Index_string slices_Index_string_l0_st slices_Index_string_l0 pat_isLeaf ref09_Name ref09_Name_l0_st ref09_Name_l0
end Go.Ev.HpPR
