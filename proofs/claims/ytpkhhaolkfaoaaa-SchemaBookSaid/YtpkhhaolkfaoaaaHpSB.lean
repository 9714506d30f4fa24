import Derived.Test.YtpkhhaolkfaoaaaProg
import Derived.Test.YtpkhhaolkfaoaaaHpEwG
import Derived.Test.YtpkhhaolkfaoaaaHpEwR
import Derived.KernelRfl
set_option maxRecDepth 20000
set_option linter.unusedVariables false
namespace Go.Ev.HpSB
def kinds : List Kind := [.other,
  .fn,
  .int .i64,
  .int .i64,
  .bool,
  .int .u8,
  .int .u8,
  .st [(0, 2), (1, 3), (2, 4), (3, 6)] 4 [none, none, none, none] [(.int .i64 0), (.int .i64 0), (.bool false), (.int .u8 0)] true,
  .st [(0, 2), (1, 3), (2, 4), (3, 6)] 4 [none, none, none, none] [(.int .i64 0), (.int .i64 0), (.bool false), (.int .u8 0)] true,
  .str,
  .str,
  .str,
  .int .u64,
  .other,
  .other,
  .ptr 114,
  .ptr 117,
  .ptr 126,
  .st [(0, 17)] 1 [none] [.nilp] false,
  .st [(0, 17)] 1 [none] [.nilp] false,
  .other,
  .int .i32,
  .sl .sch 30 2 40,
  .int .i64,
  .fn,
  .fn,
  .other,
  .fn,
  .sl .fld 34 2 24,
  .st [(0, 9), (1, 28)] 2 [none, (some .fld)] [(.str []), .nils] false,
  .st [(0, 9), (1, 28)] 2 [none, (some .fld)] [(.str []), .nils] false,
  .other,
  .fn,
  .st [(0, 9), (1, 3)] 2 [none, none] [(.str []), (.int .i64 0)] true,
  .st [(0, 9), (1, 3)] 2 [none, none] [(.str []), (.int .i64 0)] true,
  .fn,
  .sl .bnd 73 2 24,
  .sl .str 9 1 16,
  .sl (.list (.int .i64)) 42 1 24,
  .other,
  .fn,
  .fn,
  .sl (.int .i64) 3 1 8,
  .fn,
  .fn,
  .fn,
  .fn,
  .fn,
  .fn,
  .fn,
  .sl .u8 5 1 1,
  .ptr 83,
  .other,
  .fn,
  .fn,
  .ptr 89,
  .fn,
  .fn,
  .other,
  .fn,
  .fn,
  .fn,
  .fn,
  .mp .str .bool 9 4,
  .mp .str .bool 9 4,
  .fn,
  .fn,
  .fn,
  .fn,
  .fn,
  .other,
  .fn,
  .st [(0, 3), (1, 9)] 2 [none, none] [(.int .i64 0), (.str [])] true,
  .st [(0, 3), (1, 9)] 2 [none, none] [(.int .i64 0), (.str [])] true,
  .other,
  .fn,
  .fn,
  .fn,
  .fn,
  .fn,
  .st [(0, 50), (1, 4)] 2 [(some .u8), none] [.nils, (.bool false)] false,
  .st [(0, 50), (1, 4)] 2 [(some .u8), none] [.nils, (.bool false)] false,
  .st [(0, 81), (2, 3)] 3 [(some .u8), none, none] [.nils, (.bool false), (.int .i64 0)] false,
  .st [(0, 81), (2, 3)] 3 [(some .u8), none, none] [.nils, (.bool false), (.int .i64 0)] false,
  .fn,
  .fn,
  .int .u64,
  .fn,
  .st [(0, 81), (2, 3)] 3 [(some .u8), none, none] [.nils, (.bool false), (.int .i64 0)] false,
  .st [(0, 81), (2, 3)] 3 [(some .u8), none, none] [.nils, (.bool false), (.int .i64 0)] false,
  .other,
  .fn,
  .other,
  .fn,
  .other,
  .fn,
  .fn,
  .fn,
  .fn,
  .fn,
  .fn,
  .fn,
  .fn,
  .fn,
  .ptr 81,
  .other,
  .fn,
  .other,
  .fn,
  .int .u64,
  .fn,
  .fn,
  .fn,
  .st [(0, 17), (1, 17), (2, 17), (3, 9)] 4 [none, none, none, none] [.nilp, .nilp, .nilp, (.str [])] false,
  .st [(0, 17), (1, 17), (2, 17), (3, 9)] 4 [none, none, none, none] [.nilp, .nilp, .nilp, (.str [])] false,
  .other,
  .other,
  .other,
  .int .u32,
  .int .u8,
  .int .u8,
  .fn,
  .ptr 5,
  .int .i32,
  .int .i32,
  .st [(0, 12), (1, 12), (2, 118), (3, 119), (4, 5), (5, 5), (6, 120), (7, 121), (8, 122), (9, 123), (10, 124)] 11 [none, none, none, none, none, none, none, none, none, none, none] [(.int .u64 0), (.int .u64 0), (.int .u32 0), (.int .u8 0), (.int .u8 0), (.int .u8 0), (.int .u8 0), .nilf, .nilp, (.int .i32 0), (.int .i32 0)] false,
  .st [(0, 12), (1, 12), (2, 118), (3, 119), (4, 5), (5, 5), (6, 120), (7, 121), (8, 122), (9, 123), (10, 124)] 11 [none, none, none, none, none, none, none, none, none, none, none] [(.int .u64 0), (.int .u64 0), (.int .u32 0), (.int .u8 0), (.int .u8 0), (.int .u8 0), (.int .u8 0), .nilf, .nilp, (.int .i32 0), (.int .i32 0)] false,
  .other]
def res : List VSh := [.tup [],
  .tup [],
  .tup [],
  .one (.v .bool),
  .one (.v .bool),
  .one (.v .bool),
  .one (.v .bool),
  .one (.v .bool),
  .one (.v (.int .i64)),
  .one (.v .bool),
  .tup [.v (.int .i64), .v .bool],
  .tup [.v (.int .i64), .v (.int .i64), .v .bool],
  .one (.v .bool),
  .tup [.v (.sl (.list (.int .i64))), .v .bool],
  .tup [.v (.sl (.list (.int .i64))), .v .bool],
  .one (.v .bool),
  .one (.v (.sl (.int .i64))),
  .tup [.v (.int .i64), .v .bool],
  .tup [.v (.int .i64), .v (.int .i64), .v .bool],
  .one (.v (.int .i64)),
  .one (.v (.int .i64)),
  .one (.v (.int .i64)),
  .one (.v .bool),
  .one (.v .bool),
  .tup [.c .undef, .v (.int .i64)],
  .one (.v (.int .i64)),
  .one (.c .undef),
  .one (.v (.sl .u8)),
  .tup [.v (.dat .sch), .v (.int .i64)],
  .one (.v (.int .i64)),
  .one (.v (.int .i64)),
  .one (.v .bool),
  .one (.v (.int .i64)),
  .one (.v .bool),
  .one (.v (.int .i64)),
  .one (.v .bool),
  .tup [.v (.sl .bnd), .v (.int .i64)],
  .tup [.v (.sl (.list (.int .i64))), .v (.int .i64), .v .bool],
  .one (.c .undef),
  .one (.v (.sl (.int .i64))),
  .one (.v .bool),
  .one (.v .bool),
  .one (.v .bool),
  .one (.v .bool),
  .one (.v .bool),
  .one (.v (.int .i64)),
  .one (.v (.int .i64)),
  .one (.v (.int .i64)),
  .one (.v .bool),
  .tup [.v .str, .v (.int .i64)],
  .tup [.v (.int .u64), .v (.int .i64)],
  .tup [.v (.dat .fld), .v (.int .i64)],
  .one (.v (.int .i64)),
  .tup [.v (.int .i64), .v .bool],
  .tup [],
  .one (.v .bool),
  .one (.v (.sl (.int .i64))),
  .one (.v .bool),
  .one (.v .bool),
  .one (.v .bool),
  .one (.v .bool),
  .one (.v .bool),
  .one (.v (.int .i64)),
  .one (.v (.sl .u8)),
  .tup [.v (.int .u64), .v (.int .i64), .v (.int .i64)],
  .tup [.v (.int .u8), .v (.int .i64)],
  .one (.v .bool),
  .one (.v .bool),
  .one (.v (.int .i64)),
  .tup [.v (.int .u64), .v (.int .i64), .v (.int .i64)],
  .one (.v .bool),
  .one (.v .str),
  .tup [],
  .one (.v .str),
  .tup [],
  .one (.v .str),
  .tup [],
  .one (.v .str),
  .tup [],
  .one (.v .str),
  .tup [],
  .one (.v .str),
  .tup [],
  .one (.v (.int .i64)),
  .one (.v .str),
  .tup [],
  .one (.v .str)]
def rty : Nat → List AVal → List AObj → List FSh
  | f, _, objs => shapes res f objs
def mask : Nat → List Nat → Option (List Nat)
  | 3, [1, 1, 0, 1, 0] => some [0, 3]
  | 3, [1, 1, 0, 1, 0, 0, 1, 0, 0, 1, 1] => some [0, 3]
  | 3, [1, 1, 0, 1, 0, 0, 1, 0, 0, 1, 1, 1, 0] => some [0, 3, 6]
  | 8, [1, 1, 0, 1, 0] => some [0, 12, 13, 14]
  | 8, [1, 1, 1, 1, 0, 1, 0] => some [6, 25, 26, 27]
  | 32, [1, 0, 1, 0] => some [0, 1, 7, 8]
  | 34, [1, 0, 1, 0] => some [0, 1, 7, 8]
  | 41, [1, 0, 1, 0] => some [0, 6]
  | _, _ => none

noncomputable def cx : Cx := { prog := Go.Proofs.Try.prog, kinds := kinds, rty := rty, mutp := fun _ _ => false, mask := mask }
noncomputable def law07_SchemaBook (k : Nat) (l : List Sch) : Option (Bool × Unit) := acall cx k 3 [.sl .sch false l] []
def law07_SchemaBook_l0_st (l : List Sch) (i : Int) : St := { tmps := [.sl .sch false l, .undef, .undef, .int .i64 i, .undef, .undef, .undef, .undef, .undef, .undef, .undef, .undef, .undef, .undef, .undef, .undef, .undef, .undef, .undef, .undef, .undef, .undef, .undef, .undef, .undef, .undef, .undef, .undef, .undef, .undef, .undef, .undef, .undef, .undef, .undef, .undef, .undef, .undef, .undef, .undef, .undef, .undef, .undef, .undef, .undef, .undef, .undef, .undef, .undef, .undef, .undef, .undef, .undef, .undef, .undef, .undef, .undef, .undef, .undef, .undef, .undef, .undef, .undef, .undef, .undef, .undef, .undef, .undef, .undef, .undef, .undef, .undef, .undef, .undef, .undef, .undef, .undef, .undef, .undef, .undef, .undef, .undef, .undef, .undef, .undef, .undef, .undef, .undef, .undef, .undef, .undef], objs := [] }
noncomputable def law07_SchemaBook_l0 (k : Nat) (n : Nat) (l : List Sch) (i : Int) : Option (Bool × Unit) := aresume cx k 3 [.sl .sch false l] [] [1, 1, 0, 1, 0] [n] (law07_SchemaBook_l0_st l i)
def law07_SchemaBook_j0_st (l : List Sch) (i : Int) : St := { tmps := [.sl .sch false l, .undef, .undef, .int .i64 i, .undef, .undef, .undef, .undef, .undef, .undef, .undef, .undef, .undef, .undef, .undef, .undef, .undef, .undef, .undef, .undef, .undef, .undef, .undef, .undef, .undef, .undef, .undef, .undef, .undef, .undef, .undef, .undef, .undef, .undef, .undef, .undef, .undef, .undef, .undef, .undef, .undef, .undef, .undef, .undef, .undef, .undef, .undef, .undef, .undef, .undef, .undef, .undef, .undef, .undef, .undef, .undef, .undef, .undef, .undef, .undef, .undef, .undef, .undef, .undef, .undef, .undef, .undef, .undef, .undef, .undef, .undef, .undef, .undef, .undef, .undef, .undef, .undef, .undef, .undef, .undef, .undef, .undef, .undef, .undef, .undef, .undef, .undef, .undef, .undef, .undef, .undef], objs := [] }
noncomputable def law07_SchemaBook_j0 (k : Nat) (r0 : Nat) (l : List Sch) (i : Int) : Option (Bool × Unit) := aresume cx k 3 [.sl .sch false l] [] [1, 1, 0, 1, 0, 0, 1, 0, 0, 1, 1] [r0] (law07_SchemaBook_j0_st l i)
def law07_SchemaBook_l1_st (l : List Sch) (i : Int) (j : Int) : St := { tmps := [.sl .sch false l, .undef, .undef, .int .i64 i, .undef, .undef, .int .i64 j, .undef, .undef, .undef, .undef, .undef, .undef, .undef, .undef, .undef, .undef, .undef, .undef, .undef, .undef, .undef, .undef, .undef, .undef, .undef, .undef, .undef, .undef, .undef, .undef, .undef, .undef, .undef, .undef, .undef, .undef, .undef, .undef, .undef, .undef, .undef, .undef, .undef, .undef, .undef, .undef, .undef, .undef, .undef, .undef, .undef, .undef, .undef, .undef, .undef, .undef, .undef, .undef, .undef, .undef, .undef, .undef, .undef, .undef, .undef, .undef, .undef, .undef, .undef, .undef, .undef, .undef, .undef, .undef, .undef, .undef, .undef, .undef, .undef, .undef, .undef, .undef, .undef, .undef, .undef, .undef, .undef, .undef, .undef, .undef], objs := [] }
noncomputable def law07_SchemaBook_l1 (k : Nat) (r0 : Nat) (n : Nat) (l : List Sch) (i : Int) (j : Int) : Option (Bool × Unit) := aresume cx k 3 [.sl .sch false l] [] [1, 1, 0, 1, 0, 0, 1, 0, 0, 1, 1, 1, 0] [r0, n] (law07_SchemaBook_l1_st l i j)
noncomputable def schema_Book (k : Nat) (l : List Sch) : Option (Int × Unit) := acall cx k 8 [.sl .sch false l] []
def schema_Book_l0_st (l : List Sch) (t14 : Int) : St := { tmps := [.sl .sch false l, .undef, .undef, .undef, .undef, .undef, .undef, .undef, .undef, .undef, .undef, .undef, .sl .sch false l, .int .i64 ((List.length l : Nat) : Int), .int .i64 t14, .undef, .undef, .undef, .undef, .undef, .undef, .undef, .undef, .undef, .undef, .undef, .undef, .undef, .undef, .undef, .undef, .undef, .undef, .undef, .undef, .undef], objs := [] }
noncomputable def schema_Book_l0 (k : Nat) (n : Nat) (l : List Sch) (t14 : Int) : Option (Int × Unit) := aresume cx k 8 [.sl .sch false l] [] [1, 1, 0, 1, 0] [n] (schema_Book_l0_st l t14)
def schema_Book_l1_st (l : List Sch) (t27 : Int) (o0_0 : List Bytes) (o0_1 : List Bool) : St := { tmps := [.undef, .undef, .undef, .undef, .undef, .undef, .map 0, .undef, .undef, .undef, .undef, .undef, .undef, .undef, .undef, .undef, .undef, .undef, .undef, .undef, .undef, .undef, .undef, .undef, .undef, .sl .sch false l, .int .i64 ((List.length l : Nat) : Int), .int .i64 t27, .undef, .undef, .undef, .undef, .undef, .undef, .undef, .undef], objs := [.mp .str .bool o0_0 o0_1] }
noncomputable def schema_Book_l1 (k : Nat) (n : Nat) (l : List Sch) (t27 : Int) (o0_0 : List Bytes) (o0_1 : List Bool) : Option (Int × Unit) := aresume cx k 8 [.sl .sch false l] [] [1, 1, 1, 1, 0, 1, 0] [n] (schema_Book_l1_st l t27 o0_0 o0_1)
noncomputable def law07_awake (k : Nat) : Option (Bool × Unit) := acall cx k 9 [] []
noncomputable def schema_Find (k : Nat) (l : List Sch) (name : Bytes) : Option (Int × Bool × Unit) := acall cx k 10 [.sl .sch false l, .str name] []
noncomputable def schema_Field (k : Nat) (s : Sch) (name : Bytes) : Option (Int × Int × Bool × Unit) := acall cx k 11 [.agg (cells .sch s), .str name] []
noncomputable def schema_Check (k : Nat) (s : Sch) : Option (Int × Unit) := acall cx k 19 [.agg (cells .sch s)] []
noncomputable def schema_names_again (k : Nat) (s : Bytes) (o0 : List Bytes) (o1 : List Bool) : Option (List Bytes × List Bool × Bool × Unit) := acall cx k 31 [.map 0, .str s] [.mp .str .bool o0 o1]
noncomputable def api_Schema (k : Nat) (s : List Sch) (o0 : Bytes) : Option (Bytes × Int × Unit) := acall cx k 32 [.sl .sch false s, .clo 33 [.ptr 0 0]] [.box [.str o0]]
def api_Schema_l0_st (s : List Sch) (o0 : Bytes) (t8 : Int) (o01 : Bytes) : St := { tmps := [.sl .sch false s, .clo 33 [.ptr 0 0], .undef, .undef, .undef, .undef, .undef, .int .i64 ((List.length s : Nat) : Int), .int .i64 t8, .undef, .undef, .undef, .undef, .undef, .undef, .undef, .undef, .undef, .undef], objs := [.box [.str o01]] }
noncomputable def api_Schema_l0 (k : Nat) (n : Nat) (s : List Sch) (o0 : Bytes) (t8 : Int) (o01 : Bytes) : Option (Bytes × Int × Unit) := aresume cx k 32 [.sl .sch false s, .clo 33 [.ptr 0 0]] [.box [.str o0]] [1, 0, 1, 0] [n] (api_Schema_l0_st s o0 t8 o01)
noncomputable def api_Field (k : Nat) (s : List Fld) (o0 : Bytes) : Option (Bytes × Int × Unit) := acall cx k 34 [.sl .fld false s, .clo 35 [.ptr 0 0]] [.box [.str o0]]
def api_Field_l0_st (s : List Fld) (o0 : Bytes) (t8 : Int) (o01 : Bytes) : St := { tmps := [.sl .fld false s, .clo 35 [.ptr 0 0], .undef, .undef, .undef, .undef, .undef, .int .i64 ((List.length s : Nat) : Int), .int .i64 t8, .undef, .undef, .undef, .undef, .undef, .undef, .undef, .undef, .undef, .undef], objs := [.box [.str o01]] }
noncomputable def api_Field_l0 (k : Nat) (n : Nat) (s : List Fld) (o0 : Bytes) (t8 : Int) (o01 : Bytes) : Option (Bytes × Int × Unit) := aresume cx k 34 [.sl .fld false s, .clo 35 [.ptr 0 0]] [.box [.str o0]] [1, 0, 1, 0] [n] (api_Field_l0_st s o0 t8 o01)
noncomputable def word_Name (k : Nat) (s : Bytes) : Option (Bool × Unit) := acall cx k 41 [.str s] []
def word_Name_l0_st (s : Bytes) (o0_1 : Nat) : St := { tmps := [.str s, .undef, .undef, .undef, .undef, .undef, .it 0, .undef, .undef, .undef, .undef, .undef, .undef, .undef, .undef, .undef, .undef, .undef, .undef, .undef, .undef, .undef, .undef, .undef, .undef, .undef, .undef, .undef, .undef, .undef], objs := [.sit s o0_1] }
noncomputable def word_Name_l0 (k : Nat) (n : Nat) (s : Bytes) (o0_1 : Nat) : Option (Bool × Unit) := aresume cx k 41 [.str s] [] [1, 0, 1, 0] [n] (word_Name_l0_st s o0_1)
noncomputable def api_Field_2 (k : Nat) (s : List Fld) (o0 : List Bytes) (o1 : List Bool) : Option (List Bytes × List Bool × Bool × Unit) := acall cx k 42 [.sl .fld false s, .clo 40 [.ptr 0 0]] [.box [.map 1], .mp .str .bool o0 o1]
noncomputable def schema_Find_1 (k : Nat) (s : Sch) (o0 : Bytes) : Option (Bytes × Bool × Unit) := acall cx k 33 [.agg (cells .sch s), .ptr 0 0] [.box [.str o0]]
noncomputable def schema_Field_1 (k : Nat) (f : Fld) (o0 : Bytes) : Option (Bytes × Bool × Unit) := acall cx k 35 [.agg (cells .fld f), .ptr 0 0] [.box [.str o0]]
noncomputable def word_isSign (k : Nat) (r : Int) : Option (Bool × Unit) := acall cx k 57 [.int .i32 r] []
noncomputable def word_isLower (k : Nat) (r : Int) : Option (Bool × Unit) := acall cx k 58 [.int .i32 r] []
noncomputable def api_Field_3 (k : Nat) (s : List Fld) (o0 : List Bytes) (o1 : List Bool) : Option (List Bytes × List Bool × Int × Unit) := acall cx k 34 [.sl .fld false s, .clo 40 [.ptr 0 0]] [.box [.map 1], .mp .str .bool o0 o1]
def api_Field_3_l0_st (s : List Fld) (o0 : List Bytes) (o1 : List Bool) (t8 : Int) (o1_0 : List Bytes) (o1_1 : List Bool) : St := { tmps := [.sl .fld false s, .clo 40 [.ptr 0 0], .undef, .undef, .undef, .undef, .undef, .int .i64 ((List.length s : Nat) : Int), .int .i64 t8, .undef, .undef, .undef, .undef, .undef, .undef, .undef, .undef, .undef, .undef], objs := [.box [.map 1], .mp .str .bool o1_0 o1_1] }
noncomputable def api_Field_3_l0 (k : Nat) (n : Nat) (s : List Fld) (o0 : List Bytes) (o1 : List Bool) (t8 : Int) (o1_0 : List Bytes) (o1_1 : List Bool) : Option (List Bytes × List Bool × Int × Unit) := aresume cx k 34 [.sl .fld false s, .clo 40 [.ptr 0 0]] [.box [.map 1], .mp .str .bool o0 o1] [1, 0, 1, 0] [n] (api_Field_3_l0_st s o0 o1 t8 o1_0 o1_1)
noncomputable def word_isDigit (k : Nat) (r : Int) : Option (Bool × Unit) := acall cx k 66 [.int .i32 r] []
noncomputable def schema_Check_1 (k : Nat) (f : Fld) (o0 : List Bytes) (o1 : List Bool) : Option (List Bytes × List Bool × Bool × Unit) := acall cx k 40 [.agg (cells .fld f), .ptr 0 0] [.box [.map 1], .mp .str .bool o0 o1]
theorem law07_SchemaBook_seg (k : Nat) (l : List Sch) (C : List Nat → List Nat → St → Option (Bool × Unit)) : @Eq (Option (Bool × Unit)) (scall cx k 3 [.sl .sch false l] [] C) (((schema_Book k l).bind fun r => (bif (r.1 != 0) then ((law07_awake k).bind fun r1 => some (r1.1, ())) else C [1, 1, 0, 1, 0] [k] (law07_SchemaBook_l0_st l 0)))) := by kernel_rfl
theorem law07_SchemaBook_eq (k : Nat) (l : List Sch) : law07_SchemaBook (k+1) l = ((schema_Book k l).bind fun r => (bif (r.1 != 0) then ((law07_awake k).bind fun r1 => some (r1.1, ())) else law07_SchemaBook_l0 k k l 0)) := (acall_eq k 3 [.sl .sch false l] []).trans (law07_SchemaBook_seg k l _)
theorem law07_SchemaBook_l0_seg (k : Nat) (n : Nat) (l : List Sch) (i : Int) (C : List Nat → List Nat → St → Option (Bool × Unit)) : @Eq (Option (Bool × Unit)) (sresume cx k 3 [.sl .sch false l] [] [1, 1, 0, 1, 0] [n+1] (law07_SchemaBook_l0_st l i) C) ((bif decide (i < ((List.length l : Nat) : Int)) then ((idx l i).bind fun d => ((schema_Find k l d.name).bind fun r => (bif ((!r.2.1) == false) then (bif (r.1 != i) then some (false, ()) else C [1, 1, 0, 1, 0, 0, 1, 0, 0, 1, 1] [n] (law07_SchemaBook_j0_st l i)) else some (false, ())))) else (bif (decide (((List.length l : Nat) : Int) ≤ 16) == true) then ((law07_awake k).bind fun r => some (r.1, ())) else some (false, ())))) := by kernel_rfl
theorem law07_SchemaBook_l0_eq (k : Nat) (n : Nat) (l : List Sch) (i : Int) : law07_SchemaBook_l0 k (n+1) l i = (bif decide (i < ((List.length l : Nat) : Int)) then ((idx l i).bind fun d => ((schema_Find k l d.name).bind fun r => (bif ((!r.2.1) == false) then (bif (r.1 != i) then some (false, ()) else law07_SchemaBook_j0 k n l i) else some (false, ())))) else (bif (decide (((List.length l : Nat) : Int) ≤ 16) == true) then ((law07_awake k).bind fun r => some (r.1, ())) else some (false, ()))) := (aresume_eq (cx := cx) k 3 [.sl .sch false l] [] [1, 1, 0, 1, 0] [n+1] (law07_SchemaBook_l0_st l i)).trans (law07_SchemaBook_l0_seg k n l i _)
theorem law07_SchemaBook_j0_seg (k : Nat) (r0 : Nat) (l : List Sch) (i : Int) (C : List Nat → List Nat → St → Option (Bool × Unit)) : @Eq (Option (Bool × Unit)) (sresume cx k 3 [.sl .sch false l] [] [1, 1, 0, 1, 0, 0, 1, 0, 0, 1, 1] [r0] (law07_SchemaBook_j0_st l i) C) (C [1, 1, 0, 1, 0, 0, 1, 0, 0, 1, 1, 1, 0] [r0, k] (law07_SchemaBook_l1_st l i 0)) := by kernel_rfl
theorem law07_SchemaBook_j0_eq (k : Nat) (r0 : Nat) (l : List Sch) (i : Int) : law07_SchemaBook_j0 k r0 l i = law07_SchemaBook_l1 k r0 k l i 0 := (aresume_eq (cx := cx) k 3 [.sl .sch false l] [] [1, 1, 0, 1, 0, 0, 1, 0, 0, 1, 1] [r0] (law07_SchemaBook_j0_st l i)).trans (law07_SchemaBook_j0_seg k r0 l i _)
theorem law07_SchemaBook_l1_seg (k : Nat) (r0 : Nat) (n : Nat) (l : List Sch) (i : Int) (j : Int) (C : List Nat → List Nat → St → Option (Bool × Unit)) : @Eq (Option (Bool × Unit)) (sresume cx k 3 [.sl .sch false l] [] [1, 1, 0, 1, 0, 0, 1, 0, 0, 1, 1, 1, 0] [r0, n+1] (law07_SchemaBook_l1_st l i j) C) (((idx l i).bind fun d => (bif decide (j < ((List.length d.fields : Nat) : Int)) then ((idx l i).bind fun d1 => ((idx l i).bind fun d2 => ((idx d2.fields j).bind fun d3 => ((schema_Field k d1 d3.name).bind fun r => (bif ((!r.2.2.1) == false) then (bif ((r.1 != j) == false) then ((idx l i).bind fun d4 => ((idx d4.fields j).bind fun d5 => (bif (r.2.1 != d5.k) then some (false, ()) else C [1, 1, 0, 1, 0, 0, 1, 0, 0, 1, 1, 1, 0] [r0, n] (law07_SchemaBook_l1_st l i (IntKind.i64.wrap (j + 1)))))) else some (false, ())) else some (false, ())))))) else C [1, 1, 0, 1, 0] [r0] (law07_SchemaBook_l0_st l (IntKind.i64.wrap (i + 1)))))) := by kernel_rfl
theorem law07_SchemaBook_l1_eq (k : Nat) (r0 : Nat) (n : Nat) (l : List Sch) (i : Int) (j : Int) : law07_SchemaBook_l1 k r0 (n+1) l i j = ((idx l i).bind fun d => (bif decide (j < ((List.length d.fields : Nat) : Int)) then ((idx l i).bind fun d1 => ((idx l i).bind fun d2 => ((idx d2.fields j).bind fun d3 => ((schema_Field k d1 d3.name).bind fun r => (bif ((!r.2.2.1) == false) then (bif ((r.1 != j) == false) then ((idx l i).bind fun d4 => ((idx d4.fields j).bind fun d5 => (bif (r.2.1 != d5.k) then some (false, ()) else law07_SchemaBook_l1 k r0 n l i (IntKind.i64.wrap (j + 1))))) else some (false, ())) else some (false, ())))))) else law07_SchemaBook_l0 k r0 l (IntKind.i64.wrap (i + 1)))) := (aresume_eq (cx := cx) k 3 [.sl .sch false l] [] [1, 1, 0, 1, 0, 0, 1, 0, 0, 1, 1, 1, 0] [r0, n+1] (law07_SchemaBook_l1_st l i j)).trans (law07_SchemaBook_l1_seg k r0 n l i j _)
theorem schema_Book_seg (k : Nat) (l : List Sch) (C : List Nat → List Nat → St → Option (Int × Unit)) : @Eq (Option (Int × Unit)) (scall cx k 8 [.sl .sch false l] [] C) ((bif decide (((List.length l : Nat) : Int) > 16) then some (2, ()) else C [1, 1, 0, 1, 0] [k] (schema_Book_l0_st l 0))) := by kernel_rfl
theorem schema_Book_eq (k : Nat) (l : List Sch) : schema_Book (k+1) l = (bif decide (((List.length l : Nat) : Int) > 16) then some (2, ()) else schema_Book_l0 k k l 0) := (acall_eq k 8 [.sl .sch false l] []).trans (schema_Book_seg k l _)
theorem schema_Book_l0_seg (k : Nat) (n : Nat) (l : List Sch) (t14 : Int) (C : List Nat → List Nat → St → Option (Int × Unit)) : @Eq (Option (Int × Unit)) (sresume cx k 8 [.sl .sch false l] [] [1, 1, 0, 1, 0] [n+1] (schema_Book_l0_st l t14) C) ((bif decide (t14 < ((List.length l : Nat) : Int)) then ((idx l t14).bind fun d => ((schema_Check k d).bind fun r => (bif (r.1 != 0) then some (r.1, ()) else C [1, 1, 0, 1, 0] [n] (schema_Book_l0_st l (IntKind.i64.wrap (t14 + 1)))))) else C [1, 1, 1, 1, 0, 1, 0] [k] (schema_Book_l1_st l 0 ([] : List Bytes) ([] : List Bool)))) := by kernel_rfl
theorem schema_Book_l0_eq (k : Nat) (n : Nat) (l : List Sch) (t14 : Int) : schema_Book_l0 k (n+1) l t14 = (bif decide (t14 < ((List.length l : Nat) : Int)) then ((idx l t14).bind fun d => ((schema_Check k d).bind fun r => (bif (r.1 != 0) then some (r.1, ()) else schema_Book_l0 k n l (IntKind.i64.wrap (t14 + 1))))) else schema_Book_l1 k k l 0 ([] : List Bytes) ([] : List Bool)) := (aresume_eq (cx := cx) k 8 [.sl .sch false l] [] [1, 1, 0, 1, 0] [n+1] (schema_Book_l0_st l t14)).trans (schema_Book_l0_seg k n l t14 _)
theorem schema_Book_l1_seg (k : Nat) (n : Nat) (l : List Sch) (t27 : Int) (o0_0 : List Bytes) (o0_1 : List Bool) (C : List Nat → List Nat → St → Option (Int × Unit)) : @Eq (Option (Int × Unit)) (sresume cx k 8 [.sl .sch false l] [] [1, 1, 1, 1, 0, 1, 0] [n+1] (schema_Book_l1_st l t27 o0_0 o0_1) C) ((bif decide (t27 < ((List.length l : Nat) : Int)) then ((idx l t27).bind fun d => ((schema_names_again k d.name o0_0 o0_1).bind fun r => (bif r.2.2.1 then some (4, ()) else C [1, 1, 1, 1, 0, 1, 0] [n] (schema_Book_l1_st l (IntKind.i64.wrap (t27 + 1)) r.1 r.2.1)))) else some (0, ()))) := by kernel_rfl
theorem schema_Book_l1_eq (k : Nat) (n : Nat) (l : List Sch) (t27 : Int) (o0_0 : List Bytes) (o0_1 : List Bool) : schema_Book_l1 k (n+1) l t27 o0_0 o0_1 = (bif decide (t27 < ((List.length l : Nat) : Int)) then ((idx l t27).bind fun d => ((schema_names_again k d.name o0_0 o0_1).bind fun r => (bif r.2.2.1 then some (4, ()) else schema_Book_l1 k n l (IntKind.i64.wrap (t27 + 1)) r.1 r.2.1))) else some (0, ())) := (aresume_eq (cx := cx) k 8 [.sl .sch false l] [] [1, 1, 1, 1, 0, 1, 0] [n+1] (schema_Book_l1_st l t27 o0_0 o0_1)).trans (schema_Book_l1_seg k n l t27 o0_0 o0_1 _)
theorem schema_Find_seg (k : Nat) (l : List Sch) (name : Bytes) (C : List Nat → List Nat → St → Option (Int × Bool × Unit)) : @Eq (Option (Int × Bool × Unit)) (scall cx k 10 [.sl .sch false l, .str name] [] C) (((api_Schema k l name).bind fun r => some ((if 0 > r.2.1 then 0 else r.2.1), decide (r.2.1 ≥ 0), ()))) := by kernel_rfl
theorem schema_Find_eq (k : Nat) (l : List Sch) (name : Bytes) : schema_Find (k+1) l name = ((api_Schema k l name).bind fun r => some ((if 0 > r.2.1 then 0 else r.2.1), decide (r.2.1 ≥ 0), ())) := (acall_eq k 10 [.sl .sch false l, .str name] []).trans (schema_Find_seg k l name _)
theorem schema_Field_seg (k : Nat) (s : Sch) (name : Bytes) (C : List Nat → List Nat → St → Option (Int × Int × Bool × Unit)) : @Eq (Option (Int × Int × Bool × Unit)) (scall cx k 11 [.agg (cells .sch s), .str name] [] C) (((api_Field k s.fields name).bind fun r => (bif decide (r.2.1 < 0) then some (0, 0, false, ()) else ((idx s.fields r.2.1).bind fun d => some (r.2.1, d.k, true, ()))))) := by kernel_rfl
theorem schema_Field_eq (k : Nat) (s : Sch) (name : Bytes) : schema_Field (k+1) s name = ((api_Field k s.fields name).bind fun r => (bif decide (r.2.1 < 0) then some (0, 0, false, ()) else ((idx s.fields r.2.1).bind fun d => some (r.2.1, d.k, true, ())))) := (acall_eq k 11 [.agg (cells .sch s), .str name] []).trans (schema_Field_seg k s name _)
theorem schema_Check_seg (k : Nat) (s : Sch) (C : List Nat → List Nat → St → Option (Int × Unit)) : @Eq (Option (Int × Unit)) (scall cx k 19 [.agg (cells .sch s)] [] C) ((bif decide (((List.length s.fields : Nat) : Int) > 16) then some (2, ()) else ((word_Name k s.name).bind fun r => (bif ((!r.1) == false) then ((api_Field_2 k s.fields ([] : List Bytes) ([] : List Bool)).bind fun r1 => (bif r1.2.2.1 then some (1, ()) else some (0, ()))) else some (1, ()))))) := by kernel_rfl
theorem schema_Check_eq (k : Nat) (s : Sch) : schema_Check (k+1) s = (bif decide (((List.length s.fields : Nat) : Int) > 16) then some (2, ()) else ((word_Name k s.name).bind fun r => (bif ((!r.1) == false) then ((api_Field_2 k s.fields ([] : List Bytes) ([] : List Bool)).bind fun r1 => (bif r1.2.2.1 then some (1, ()) else some (0, ()))) else some (1, ())))) := (acall_eq k 19 [.agg (cells .sch s)] []).trans (schema_Check_seg k s _)
theorem schema_names_again_seg (k : Nat) (s : Bytes) (o0 : List Bytes) (o1 : List Bool) (C : List Nat → List Nat → St → Option (List Bytes × List Bool × Bool × Unit)) : @Eq (Option (List Bytes × List Bool × Bool × Unit)) (scall cx k 31 [.map 0, .str s] [.mp .str .bool o0 o1] C) ((bif (lookM o0 o1 s false) then some (o0, o1, true, ()) else some ((putK o0 s), (putV o0 o1 s true), false, ()))) := by kernel_rfl
theorem schema_names_again_eq (k : Nat) (s : Bytes) (o0 : List Bytes) (o1 : List Bool) : schema_names_again (k+1) s o0 o1 = (bif (lookM o0 o1 s false) then some (o0, o1, true, ()) else some ((putK o0 s), (putV o0 o1 s true), false, ())) := (acall_eq k 31 [.map 0, .str s] [.mp .str .bool o0 o1]).trans (schema_names_again_seg k s o0 o1 _)
theorem api_Schema_seg (k : Nat) (s : List Sch) (o0 : Bytes) (C : List Nat → List Nat → St → Option (Bytes × Int × Unit)) : @Eq (Option (Bytes × Int × Unit)) (scall cx k 32 [.sl .sch false s, .clo 33 [.ptr 0 0]] [.box [.str o0]] C) (C [1, 0, 1, 0] [k] (api_Schema_l0_st s o0 0 o0)) := by kernel_rfl
theorem api_Schema_eq (k : Nat) (s : List Sch) (o0 : Bytes) : api_Schema (k+1) s o0 = api_Schema_l0 k k s o0 0 o0 := (acall_eq k 32 [.sl .sch false s, .clo 33 [.ptr 0 0]] [.box [.str o0]]).trans (api_Schema_seg k s o0 _)
theorem api_Schema_l0_seg (k : Nat) (n : Nat) (s : List Sch) (o0 : Bytes) (t8 : Int) (o01 : Bytes) (C : List Nat → List Nat → St → Option (Bytes × Int × Unit)) : @Eq (Option (Bytes × Int × Unit)) (sresume cx k 32 [.sl .sch false s, .clo 33 [.ptr 0 0]] [.box [.str o0]] [1, 0, 1, 0] [n+1] (api_Schema_l0_st s o0 t8 o01) C) ((bif decide (t8 < ((List.length s : Nat) : Int)) then ((idx s t8).bind fun d => ((schema_Find_1 k d o01).bind fun r => (bif r.2.1 then some (r.1, t8, ()) else C [1, 0, 1, 0] [n] (api_Schema_l0_st s o0 (IntKind.i64.wrap (t8 + 1)) r.1)))) else some (o01, (-1), ()))) := by kernel_rfl
theorem api_Schema_l0_eq (k : Nat) (n : Nat) (s : List Sch) (o0 : Bytes) (t8 : Int) (o01 : Bytes) : api_Schema_l0 k (n+1) s o0 t8 o01 = (bif decide (t8 < ((List.length s : Nat) : Int)) then ((idx s t8).bind fun d => ((schema_Find_1 k d o01).bind fun r => (bif r.2.1 then some (r.1, t8, ()) else api_Schema_l0 k n s o0 (IntKind.i64.wrap (t8 + 1)) r.1))) else some (o01, (-1), ())) := (aresume_eq (cx := cx) k 32 [.sl .sch false s, .clo 33 [.ptr 0 0]] [.box [.str o0]] [1, 0, 1, 0] [n+1] (api_Schema_l0_st s o0 t8 o01)).trans (api_Schema_l0_seg k n s o0 t8 o01 _)
theorem api_Field_seg (k : Nat) (s : List Fld) (o0 : Bytes) (C : List Nat → List Nat → St → Option (Bytes × Int × Unit)) : @Eq (Option (Bytes × Int × Unit)) (scall cx k 34 [.sl .fld false s, .clo 35 [.ptr 0 0]] [.box [.str o0]] C) (C [1, 0, 1, 0] [k] (api_Field_l0_st s o0 0 o0)) := by kernel_rfl
theorem api_Field_eq (k : Nat) (s : List Fld) (o0 : Bytes) : api_Field (k+1) s o0 = api_Field_l0 k k s o0 0 o0 := (acall_eq k 34 [.sl .fld false s, .clo 35 [.ptr 0 0]] [.box [.str o0]]).trans (api_Field_seg k s o0 _)
theorem api_Field_l0_seg (k : Nat) (n : Nat) (s : List Fld) (o0 : Bytes) (t8 : Int) (o01 : Bytes) (C : List Nat → List Nat → St → Option (Bytes × Int × Unit)) : @Eq (Option (Bytes × Int × Unit)) (sresume cx k 34 [.sl .fld false s, .clo 35 [.ptr 0 0]] [.box [.str o0]] [1, 0, 1, 0] [n+1] (api_Field_l0_st s o0 t8 o01) C) ((bif decide (t8 < ((List.length s : Nat) : Int)) then ((idx s t8).bind fun d => ((schema_Field_1 k d o01).bind fun r => (bif r.2.1 then some (r.1, t8, ()) else C [1, 0, 1, 0] [n] (api_Field_l0_st s o0 (IntKind.i64.wrap (t8 + 1)) r.1)))) else some (o01, (-1), ()))) := by kernel_rfl
theorem api_Field_l0_eq (k : Nat) (n : Nat) (s : List Fld) (o0 : Bytes) (t8 : Int) (o01 : Bytes) : api_Field_l0 k (n+1) s o0 t8 o01 = (bif decide (t8 < ((List.length s : Nat) : Int)) then ((idx s t8).bind fun d => ((schema_Field_1 k d o01).bind fun r => (bif r.2.1 then some (r.1, t8, ()) else api_Field_l0 k n s o0 (IntKind.i64.wrap (t8 + 1)) r.1))) else some (o01, (-1), ())) := (aresume_eq (cx := cx) k 34 [.sl .fld false s, .clo 35 [.ptr 0 0]] [.box [.str o0]] [1, 0, 1, 0] [n+1] (api_Field_l0_st s o0 t8 o01)).trans (api_Field_l0_seg k n s o0 t8 o01 _)
theorem word_Name_seg (k : Nat) (s : Bytes) (C : List Nat → List Nat → St → Option (Bool × Unit)) : @Eq (Option (Bool × Unit)) (scall cx k 41 [.str s] [] C) (C [1, 0, 1, 0] [k] (word_Name_l0_st s 0)) := by kernel_rfl
theorem word_Name_eq (k : Nat) (s : Bytes) : word_Name (k+1) s = word_Name_l0 k k s 0 := (acall_eq k 41 [.str s] []).trans (word_Name_seg k s _)
theorem word_Name_l0_seg (k : Nat) (n : Nat) (s : Bytes) (o0_1 : Nat) (C : List Nat → List Nat → St → Option (Bool × Unit)) : @Eq (Option (Bool × Unit)) (sresume cx k 41 [.str s] [] [1, 0, 1, 0] [n+1] (word_Name_l0_st s o0_1) C) ((bif decide (o0_1 < List.length s) then ((word_isSign k ((runeC s o0_1 : Nat) : Int)).bind fun r => (bif ((!r.1) == false) then (bif ((((o0_1 : Nat) : Int) == 0) == true) then ((word_isLower k ((runeC s o0_1 : Nat) : Int)).bind fun r1 => (bif (!r1.1) then some (false, ()) else C [1, 0, 1, 0] [n] (word_Name_l0_st s (o0_1 + runeW s o0_1)))) else C [1, 0, 1, 0] [n] (word_Name_l0_st s (o0_1 + runeW s o0_1))) else some (false, ()))) else (bif ((!(s == ([] : Bytes))) == true) then some (decide (((List.length s : Nat) : Int) ≤ 32), ()) else some (false, ())))) := by kernel_rfl
theorem word_Name_l0_eq (k : Nat) (n : Nat) (s : Bytes) (o0_1 : Nat) : word_Name_l0 k (n+1) s o0_1 = (bif decide (o0_1 < List.length s) then ((word_isSign k ((runeC s o0_1 : Nat) : Int)).bind fun r => (bif ((!r.1) == false) then (bif ((((o0_1 : Nat) : Int) == 0) == true) then ((word_isLower k ((runeC s o0_1 : Nat) : Int)).bind fun r1 => (bif (!r1.1) then some (false, ()) else word_Name_l0 k n s (o0_1 + runeW s o0_1))) else word_Name_l0 k n s (o0_1 + runeW s o0_1)) else some (false, ()))) else (bif ((!(s == ([] : Bytes))) == true) then some (decide (((List.length s : Nat) : Int) ≤ 32), ()) else some (false, ()))) := (aresume_eq (cx := cx) k 41 [.str s] [] [1, 0, 1, 0] [n+1] (word_Name_l0_st s o0_1)).trans (word_Name_l0_seg k n s o0_1 _)
theorem api_Field_2_seg (k : Nat) (s : List Fld) (o0 : List Bytes) (o1 : List Bool) (C : List Nat → List Nat → St → Option (List Bytes × List Bool × Bool × Unit)) : @Eq (Option (List Bytes × List Bool × Bool × Unit)) (scall cx k 42 [.sl .fld false s, .clo 40 [.ptr 0 0]] [.box [.map 1], .mp .str .bool o0 o1] C) (((api_Field_3 k s o0 o1).bind fun r => some (r.1, r.2.1, decide (r.2.2.1 ≥ 0), ()))) := by kernel_rfl
theorem api_Field_2_eq (k : Nat) (s : List Fld) (o0 : List Bytes) (o1 : List Bool) : api_Field_2 (k+1) s o0 o1 = ((api_Field_3 k s o0 o1).bind fun r => some (r.1, r.2.1, decide (r.2.2.1 ≥ 0), ())) := (acall_eq k 42 [.sl .fld false s, .clo 40 [.ptr 0 0]] [.box [.map 1], .mp .str .bool o0 o1]).trans (api_Field_2_seg k s o0 o1 _)
theorem schema_Find_1_seg (k : Nat) (s : Sch) (o0 : Bytes) (C : List Nat → List Nat → St → Option (Bytes × Bool × Unit)) : @Eq (Option (Bytes × Bool × Unit)) (scall cx k 33 [.agg (cells .sch s), .ptr 0 0] [.box [.str o0]] C) (some (o0, (s.name == o0), ())) := by kernel_rfl
theorem schema_Find_1_eq (k : Nat) (s : Sch) (o0 : Bytes) : schema_Find_1 (k+1) s o0 = some (o0, (s.name == o0), ()) := (acall_eq k 33 [.agg (cells .sch s), .ptr 0 0] [.box [.str o0]]).trans (schema_Find_1_seg k s o0 _)
theorem schema_Field_1_seg (k : Nat) (f : Fld) (o0 : Bytes) (C : List Nat → List Nat → St → Option (Bytes × Bool × Unit)) : @Eq (Option (Bytes × Bool × Unit)) (scall cx k 35 [.agg (cells .fld f), .ptr 0 0] [.box [.str o0]] C) (some (o0, (f.name == o0), ())) := by kernel_rfl
theorem schema_Field_1_eq (k : Nat) (f : Fld) (o0 : Bytes) : schema_Field_1 (k+1) f o0 = some (o0, (f.name == o0), ()) := (acall_eq k 35 [.agg (cells .fld f), .ptr 0 0] [.box [.str o0]]).trans (schema_Field_1_seg k f o0 _)
theorem word_isSign_seg (k : Nat) (r : Int) (C : List Nat → List Nat → St → Option (Bool × Unit)) : @Eq (Option (Bool × Unit)) (scall cx k 57 [.int .i32 r] [] C) (((word_isLower k r).bind fun r1 => (bif (r1.1 == false) then ((word_isDigit k r).bind fun r2 => (bif (r2.1 == false) then some ((r == 95), ()) else some (true, ()))) else some (true, ())))) := by kernel_rfl
theorem word_isSign_eq (k : Nat) (r : Int) : word_isSign (k+1) r = ((word_isLower k r).bind fun r1 => (bif (r1.1 == false) then ((word_isDigit k r).bind fun r2 => (bif (r2.1 == false) then some ((r == 95), ()) else some (true, ()))) else some (true, ()))) := (acall_eq k 57 [.int .i32 r] []).trans (word_isSign_seg k r _)
theorem word_isLower_seg (k : Nat) (r : Int) (C : List Nat → List Nat → St → Option (Bool × Unit)) : @Eq (Option (Bool × Unit)) (scall cx k 58 [.int .i32 r] [] C) ((bif (decide (r ≥ 97) == true) then some (decide (r ≤ 122), ()) else some (false, ()))) := by kernel_rfl
theorem word_isLower_eq (k : Nat) (r : Int) : word_isLower (k+1) r = (bif (decide (r ≥ 97) == true) then some (decide (r ≤ 122), ()) else some (false, ())) := (acall_eq k 58 [.int .i32 r] []).trans (word_isLower_seg k r _)
theorem api_Field_3_seg (k : Nat) (s : List Fld) (o0 : List Bytes) (o1 : List Bool) (C : List Nat → List Nat → St → Option (List Bytes × List Bool × Int × Unit)) : @Eq (Option (List Bytes × List Bool × Int × Unit)) (scall cx k 34 [.sl .fld false s, .clo 40 [.ptr 0 0]] [.box [.map 1], .mp .str .bool o0 o1] C) (C [1, 0, 1, 0] [k] (api_Field_3_l0_st s o0 o1 0 o0 o1)) := by kernel_rfl
theorem api_Field_3_eq (k : Nat) (s : List Fld) (o0 : List Bytes) (o1 : List Bool) : api_Field_3 (k+1) s o0 o1 = api_Field_3_l0 k k s o0 o1 0 o0 o1 := (acall_eq k 34 [.sl .fld false s, .clo 40 [.ptr 0 0]] [.box [.map 1], .mp .str .bool o0 o1]).trans (api_Field_3_seg k s o0 o1 _)
theorem api_Field_3_l0_seg (k : Nat) (n : Nat) (s : List Fld) (o0 : List Bytes) (o1 : List Bool) (t8 : Int) (o1_0 : List Bytes) (o1_1 : List Bool) (C : List Nat → List Nat → St → Option (List Bytes × List Bool × Int × Unit)) : @Eq (Option (List Bytes × List Bool × Int × Unit)) (sresume cx k 34 [.sl .fld false s, .clo 40 [.ptr 0 0]] [.box [.map 1], .mp .str .bool o0 o1] [1, 0, 1, 0] [n+1] (api_Field_3_l0_st s o0 o1 t8 o1_0 o1_1) C) ((bif decide (t8 < ((List.length s : Nat) : Int)) then ((idx s t8).bind fun d => ((schema_Check_1 k d o1_0 o1_1).bind fun r => (bif r.2.2.1 then some (r.1, r.2.1, t8, ()) else C [1, 0, 1, 0] [n] (api_Field_3_l0_st s o0 o1 (IntKind.i64.wrap (t8 + 1)) r.1 r.2.1)))) else some (o1_0, o1_1, (-1), ()))) := by kernel_rfl
theorem api_Field_3_l0_eq (k : Nat) (n : Nat) (s : List Fld) (o0 : List Bytes) (o1 : List Bool) (t8 : Int) (o1_0 : List Bytes) (o1_1 : List Bool) : api_Field_3_l0 k (n+1) s o0 o1 t8 o1_0 o1_1 = (bif decide (t8 < ((List.length s : Nat) : Int)) then ((idx s t8).bind fun d => ((schema_Check_1 k d o1_0 o1_1).bind fun r => (bif r.2.2.1 then some (r.1, r.2.1, t8, ()) else api_Field_3_l0 k n s o0 o1 (IntKind.i64.wrap (t8 + 1)) r.1 r.2.1))) else some (o1_0, o1_1, (-1), ())) := (aresume_eq (cx := cx) k 34 [.sl .fld false s, .clo 40 [.ptr 0 0]] [.box [.map 1], .mp .str .bool o0 o1] [1, 0, 1, 0] [n+1] (api_Field_3_l0_st s o0 o1 t8 o1_0 o1_1)).trans (api_Field_3_l0_seg k n s o0 o1 t8 o1_0 o1_1 _)
theorem word_isDigit_seg (k : Nat) (r : Int) (C : List Nat → List Nat → St → Option (Bool × Unit)) : @Eq (Option (Bool × Unit)) (scall cx k 66 [.int .i32 r] [] C) ((bif (decide (r ≥ 48) == true) then some (decide (r ≤ 57), ()) else some (false, ()))) := by kernel_rfl
theorem word_isDigit_eq (k : Nat) (r : Int) : word_isDigit (k+1) r = (bif (decide (r ≥ 48) == true) then some (decide (r ≤ 57), ()) else some (false, ())) := (acall_eq k 66 [.int .i32 r] []).trans (word_isDigit_seg k r _)
theorem schema_Check_1_seg (k : Nat) (f : Fld) (o0 : List Bytes) (o1 : List Bool) (C : List Nat → List Nat → St → Option (List Bytes × List Bool × Bool × Unit)) : @Eq (Option (List Bytes × List Bool × Bool × Unit)) (scall cx k 40 [.agg (cells .fld f), .ptr 0 0] [.box [.map 1], .mp .str .bool o0 o1] C) (((word_Name k f.name).bind fun r => (bif ((!r.1) == false) then (bif (decide (f.k < 1) == false) then (bif (decide (f.k > 3) == false) then ((schema_names_again k f.name o0 o1).bind fun r1 => some (r1.1, r1.2.1, r1.2.2.1, ())) else some (o0, o1, true, ())) else some (o0, o1, true, ())) else some (o0, o1, true, ())))) := by kernel_rfl
theorem schema_Check_1_eq (k : Nat) (f : Fld) (o0 : List Bytes) (o1 : List Bool) : schema_Check_1 (k+1) f o0 o1 = ((word_Name k f.name).bind fun r => (bif ((!r.1) == false) then (bif (decide (f.k < 1) == false) then (bif (decide (f.k > 3) == false) then ((schema_names_again k f.name o0 o1).bind fun r1 => some (r1.1, r1.2.1, r1.2.2.1, ())) else some (o0, o1, true, ())) else some (o0, o1, true, ())) else some (o0, o1, true, ()))) := (acall_eq k 40 [.agg (cells .fld f), .ptr 0 0] [.box [.map 1], .mp .str .bool o0 o1]).trans (schema_Check_1_seg k f o0 o1 _)
theorem law07_SchemaBook_def : @law07_SchemaBook = fun k l => acall cx k 3 [.sl .sch false l] [] := rfl
attribute [irreducible] law07_SchemaBook law07_SchemaBook_l0_st law07_SchemaBook_l0 law07_SchemaBook_j0_st law07_SchemaBook_j0 law07_SchemaBook_l1_st law07_SchemaBook_l1 schema_Book schema_Book_l0_st schema_Book_l0 schema_Book_l1_st schema_Book_l1 law07_awake schema_Find schema_Field schema_Check schema_names_again api_Schema api_Schema_l0_st api_Schema_l0 api_Field api_Field_l0_st api_Field_l0 word_Name word_Name_l0_st word_Name_l0 api_Field_2 schema_Find_1 schema_Field_1 word_isSign word_isLower api_Field_3 api_Field_3_l0_st api_Field_3_l0 word_isDigit schema_Check_1
end Go.Ev.HpSB
