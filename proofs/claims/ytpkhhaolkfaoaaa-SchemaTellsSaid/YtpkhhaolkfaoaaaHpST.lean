import Derived.Test.YtpkhhaolkfaoaaaProg
import Derived.Test.YtpkhhaolkfaoaaaHpEwG
import Derived.Test.YtpkhhaolkfaoaaaHpEwR
import Derived.KernelRfl
set_option maxRecDepth 20000
set_option linter.unusedVariables false
namespace Go.Ev.HpST
def kinds : List Kind := [.other,
  .fn,
  .int .i64,
  .int .i64,
  .bool,
  .int .u8,
  .int .u8,
  .st [(0, 2), (1, 3), (2, 4), (3, 6)] 4 [none, none, none, none] [(.int .i64 0), (.int .i64 0), (.bool false), (.int .u8 0)] true,
  .st [(0, 2), (1, 3), (2, 4), (3, 6)] 4 [none, none, none, none] [(.int .i64 0), (.int .i64 0), (.bool false), (.int .u8 0)] true,
  .str,
  .str,
  .str,
  .int .u64,
  .other,
  .other,
  .ptr 114,
  .ptr 117,
  .ptr 126,
  .st [(0, 17)] 1 [none] [.nilp] false,
  .st [(0, 17)] 1 [none] [.nilp] false,
  .other,
  .int .i32,
  .sl .sch 30 2 40,
  .int .i64,
  .fn,
  .fn,
  .other,
  .fn,
  .sl .fld 34 2 24,
  .st [(0, 9), (1, 28)] 2 [none, (some .fld)] [(.str []), .nils] false,
  .st [(0, 9), (1, 28)] 2 [none, (some .fld)] [(.str []), .nils] false,
  .other,
  .fn,
  .st [(0, 9), (1, 3)] 2 [none, none] [(.str []), (.int .i64 0)] true,
  .st [(0, 9), (1, 3)] 2 [none, none] [(.str []), (.int .i64 0)] true,
  .fn,
  .sl .bnd 73 2 24,
  .sl .str 9 1 16,
  .sl (.list (.int .i64)) 42 1 24,
  .other,
  .fn,
  .fn,
  .sl (.int .i64) 3 1 8,
  .fn,
  .fn,
  .fn,
  .fn,
  .fn,
  .fn,
  .fn,
  .sl .u8 5 1 1,
  .ptr 83,
  .other,
  .fn,
  .fn,
  .ptr 89,
  .fn,
  .fn,
  .other,
  .fn,
  .fn,
  .fn,
  .fn,
  .mp .str .bool 9 4,
  .mp .str .bool 9 4,
  .fn,
  .fn,
  .fn,
  .fn,
  .fn,
  .other,
  .fn,
  .st [(0, 3), (1, 9)] 2 [none, none] [(.int .i64 0), (.str [])] true,
  .st [(0, 3), (1, 9)] 2 [none, none] [(.int .i64 0), (.str [])] true,
  .other,
  .fn,
  .fn,
  .fn,
  .fn,
  .fn,
  .st [(0, 50), (1, 4)] 2 [(some .u8), none] [.nils, (.bool false)] false,
  .st [(0, 50), (1, 4)] 2 [(some .u8), none] [.nils, (.bool false)] false,
  .st [(0, 81), (2, 3)] 3 [(some .u8), none, none] [.nils, (.bool false), (.int .i64 0)] false,
  .st [(0, 81), (2, 3)] 3 [(some .u8), none, none] [.nils, (.bool false), (.int .i64 0)] false,
  .fn,
  .fn,
  .int .u64,
  .fn,
  .st [(0, 81), (2, 3)] 3 [(some .u8), none, none] [.nils, (.bool false), (.int .i64 0)] false,
  .st [(0, 81), (2, 3)] 3 [(some .u8), none, none] [.nils, (.bool false), (.int .i64 0)] false,
  .other,
  .fn,
  .other,
  .fn,
  .other,
  .fn,
  .fn,
  .fn,
  .fn,
  .fn,
  .fn,
  .fn,
  .fn,
  .fn,
  .ptr 81,
  .other,
  .fn,
  .other,
  .fn,
  .int .u64,
  .fn,
  .fn,
  .fn,
  .st [(0, 17), (1, 17), (2, 17), (3, 9)] 4 [none, none, none, none] [.nilp, .nilp, .nilp, (.str [])] false,
  .st [(0, 17), (1, 17), (2, 17), (3, 9)] 4 [none, none, none, none] [.nilp, .nilp, .nilp, (.str [])] false,
  .other,
  .other,
  .other,
  .int .u32,
  .int .u8,
  .int .u8,
  .fn,
  .ptr 5,
  .int .i32,
  .int .i32,
  .st [(0, 12), (1, 12), (2, 118), (3, 119), (4, 5), (5, 5), (6, 120), (7, 121), (8, 122), (9, 123), (10, 124)] 11 [none, none, none, none, none, none, none, none, none, none, none] [(.int .u64 0), (.int .u64 0), (.int .u32 0), (.int .u8 0), (.int .u8 0), (.int .u8 0), (.int .u8 0), .nilf, .nilp, (.int .i32 0), (.int .i32 0)] false,
  .st [(0, 12), (1, 12), (2, 118), (3, 119), (4, 5), (5, 5), (6, 120), (7, 121), (8, 122), (9, 123), (10, 124)] 11 [none, none, none, none, none, none, none, none, none, none, none] [(.int .u64 0), (.int .u64 0), (.int .u32 0), (.int .u8 0), (.int .u8 0), (.int .u8 0), (.int .u8 0), .nilf, .nilp, (.int .i32 0), (.int .i32 0)] false,
  .other]
def res : List VSh := [.tup [],
  .tup [],
  .tup [],
  .one (.v .bool),
  .one (.v .bool),
  .one (.v .bool),
  .one (.v .bool),
  .one (.v .bool),
  .one (.v (.int .i64)),
  .one (.v .bool),
  .tup [.v (.int .i64), .v .bool],
  .tup [.v (.int .i64), .v (.int .i64), .v .bool],
  .one (.v .bool),
  .tup [.v (.sl (.list (.int .i64))), .v .bool],
  .tup [.v (.sl (.list (.int .i64))), .v .bool],
  .one (.v .bool),
  .one (.v (.sl (.int .i64))),
  .tup [.v (.int .i64), .v .bool],
  .tup [.v (.int .i64), .v (.int .i64), .v .bool],
  .one (.v (.int .i64)),
  .one (.v (.int .i64)),
  .one (.v (.int .i64)),
  .one (.v .bool),
  .one (.v .bool),
  .tup [.c .undef, .v (.int .i64)],
  .one (.v (.int .i64)),
  .one (.c .undef),
  .one (.v (.sl .u8)),
  .tup [.v (.dat .sch), .v (.int .i64)],
  .one (.v (.int .i64)),
  .one (.v (.int .i64)),
  .one (.v .bool),
  .one (.v (.int .i64)),
  .one (.v .bool),
  .one (.v (.int .i64)),
  .one (.v .bool),
  .tup [.v (.sl .bnd), .v (.int .i64)],
  .tup [.v (.sl (.list (.int .i64))), .v (.int .i64), .v .bool],
  .one (.c .undef),
  .one (.v (.sl (.int .i64))),
  .one (.v .bool),
  .one (.v .bool),
  .one (.v .bool),
  .one (.v .bool),
  .one (.v .bool),
  .one (.v (.int .i64)),
  .one (.v (.int .i64)),
  .one (.v (.int .i64)),
  .one (.v .bool),
  .tup [.v .str, .v (.int .i64)],
  .tup [.v (.int .u64), .v (.int .i64)],
  .tup [.v (.dat .fld), .v (.int .i64)],
  .one (.v (.int .i64)),
  .tup [.v (.int .i64), .v .bool],
  .tup [],
  .one (.v .bool),
  .one (.v (.sl (.int .i64))),
  .one (.v .bool),
  .one (.v .bool),
  .one (.v .bool),
  .one (.v .bool),
  .one (.v .bool),
  .one (.v (.int .i64)),
  .one (.v (.sl .u8)),
  .tup [.v (.int .u64), .v (.int .i64), .v (.int .i64)],
  .tup [.v (.int .u8), .v (.int .i64)],
  .one (.v .bool),
  .one (.v .bool),
  .one (.v (.int .i64)),
  .tup [.v (.int .u64), .v (.int .i64), .v (.int .i64)],
  .one (.v .bool),
  .one (.v .str),
  .tup [],
  .one (.v .str),
  .tup [],
  .one (.v .str),
  .tup [],
  .one (.v .str),
  .tup [],
  .one (.v .str),
  .tup [],
  .one (.v .str),
  .tup [],
  .one (.v (.int .i64)),
  .one (.v .str),
  .tup [],
  .one (.v .str)]
def rty : Nat → List AVal → List AObj → List FSh
  | f, _, objs => shapes res f objs
def mask : Nat → List Nat → Option (List Nat)
  | 6, [1, 1, 1, 1, 1, 1] => some [0, 4]
  | 6, [1, 1, 1, 1, 1, 1, 0, 1, 0] => some [0, 4, 17]
  | 8, [1, 1, 0, 1, 0] => some [0, 12, 13, 14]
  | 8, [1, 1, 1, 1, 0, 1, 0] => some [6, 25, 26, 27]
  | 17, [1, 0, 1, 0] => some [0, 1, 6]
  | 18, [1, 0, 1, 0] => some [1, 2, 7]
  | 20, [1, 1, 1, 0, 1, 0] => some [1, 3, 4]
  | 20, [1, 1, 1, 0, 1, 0, 0, 1, 0, 0, 1, 1] => some [1, 3, 4, 5]
  | 20, [1, 1, 1, 0, 1, 0, 0, 1, 0, 0, 1, 1, 1, 0] => some [1, 3, 4, 5, 6]
  | 21, [1, 1, 0, 1, 0] => some [0, 3]
  | 21, [1, 1, 1, 0, 1, 0] => some [0, 5]
  | 21, [1, 1, 1, 0, 1, 0, 0, 1, 0, 0, 1, 0] => some [0, 5, 6]
  | 23, [1, 1] => some [2, 3]
  | 23, [1, 1, 0, 1, 0] => some [2, 3, 5]
  | 23, [1, 1, 0, 1, 0, 0, 1] => some [2, 3, 5]
  | 32, [1, 0, 1, 0] => some [0, 1, 7, 8]
  | 34, [1, 0, 1, 0] => some [0, 1, 7, 8]
  | 41, [1, 0, 1, 0] => some [0, 6]
  | 43, [1, 0, 1, 0] => some [0, 3]
  | 44, [1, 1, 0, 1, 0] => some [0, 1, 12, 13]
  | _, _ => none

noncomputable def cx : Cx := { prog := Go.Proofs.Try.prog, kinds := kinds, rty := rty, mutp := fun _ _ => false, mask := mask }
noncomputable def law07_SchemaTells (k : Nat) (l : List Sch) (s : Sch) (name : Bytes) : Option (Bool × Unit) := acall cx k 6 [.sl .sch false l, .agg (cells .sch s), .str name] []
def law07_SchemaTells_j0_st (l : List Sch) (s : Sch) (name : Bytes) : St := { tmps := [.sl .sch false l, .undef, .undef, .undef, .ptr 0 0, .undef, .undef, .undef, .undef, .undef, .undef, .undef, .undef, .undef, .undef, .undef, .undef, .undef, .undef, .undef, .undef, .undef, .undef, .undef, .undef, .undef, .undef, .undef, .undef, .undef, .undef, .undef, .undef, .undef, .undef, .undef, .undef, .undef, .undef, .undef, .undef, .undef, .undef, .undef, .undef, .undef, .undef, .undef, .undef, .undef, .undef, .undef, .undef, .undef, .undef, .undef, .undef, .undef, .undef, .undef, .undef, .undef, .undef, .undef, .undef, .undef, .undef, .undef, .undef, .undef, .undef, .undef, .undef, .undef, .undef, .undef, .undef, .undef, .undef, .undef, .undef, .undef, .undef, .undef, .undef, .undef, .undef, .undef, .undef, .undef, .undef, .undef, .undef, .undef, .undef, .undef, .undef, .undef, .undef, .undef, .undef, .undef, .undef, .undef, .undef, .undef], objs := [.box (cells .sch s)] }
noncomputable def law07_SchemaTells_j0 (k : Nat) (l : List Sch) (s : Sch) (name : Bytes) : Option (Bool × Unit) := aresume cx k 6 [.sl .sch false l, .agg (cells .sch s), .str name] [] [1, 1, 1, 1, 1, 1] [] (law07_SchemaTells_j0_st l s name)
def law07_SchemaTells_l0_st (l : List Sch) (s : Sch) (name : Bytes) (k_ : Int) : St := { tmps := [.sl .sch false l, .undef, .undef, .undef, .ptr 0 0, .undef, .undef, .undef, .undef, .undef, .undef, .undef, .undef, .undef, .undef, .undef, .undef, .int .i64 k_, .undef, .undef, .undef, .undef, .undef, .undef, .undef, .undef, .undef, .undef, .undef, .undef, .undef, .undef, .undef, .undef, .undef, .undef, .undef, .undef, .undef, .undef, .undef, .undef, .undef, .undef, .undef, .undef, .undef, .undef, .undef, .undef, .undef, .undef, .undef, .undef, .undef, .undef, .undef, .undef, .undef, .undef, .undef, .undef, .undef, .undef, .undef, .undef, .undef, .undef, .undef, .undef, .undef, .undef, .undef, .undef, .undef, .undef, .undef, .undef, .undef, .undef, .undef, .undef, .undef, .undef, .undef, .undef, .undef, .undef, .undef, .undef, .undef, .undef, .undef, .undef, .undef, .undef, .undef, .undef, .undef, .undef, .undef, .undef, .undef, .undef, .undef, .undef], objs := [.box (cells .sch s)] }
noncomputable def law07_SchemaTells_l0 (k : Nat) (n : Nat) (l : List Sch) (s : Sch) (name : Bytes) (k_ : Int) : Option (Bool × Unit) := aresume cx k 6 [.sl .sch false l, .agg (cells .sch s), .str name] [] [1, 1, 1, 1, 1, 1, 0, 1, 0] [n] (law07_SchemaTells_l0_st l s name k_)
noncomputable def schema_Find (k : Nat) (l : List Sch) (name : Bytes) : Option (Int × Bool × Unit) := acall cx k 10 [.sl .sch false l, .str name] []
noncomputable def ref07_Find (k : Nat) (l : List Sch) (name : Bytes) : Option (Int × Bool × Unit) := acall cx k 17 [.sl .sch false l, .str name] []
def ref07_Find_l0_st (l : List Sch) (name : Bytes) (i : Int) : St := { tmps := [.sl .sch false l, .str name, .undef, .undef, .undef, .undef, .int .i64 i, .undef, .undef, .undef, .undef, .undef, .undef, .undef, .undef, .undef, .undef, .undef, .undef, .undef, .undef], objs := [] }
noncomputable def ref07_Find_l0 (k : Nat) (n : Nat) (l : List Sch) (name : Bytes) (i : Int) : Option (Int × Bool × Unit) := aresume cx k 17 [.sl .sch false l, .str name] [] [1, 0, 1, 0] [n] (ref07_Find_l0_st l name i)
noncomputable def schema_Field (k : Nat) (s : Sch) (name : Bytes) : Option (Int × Int × Bool × Unit) := acall cx k 11 [.agg (cells .sch s), .str name] []
noncomputable def ref07_Field (k : Nat) (s : Sch) (name : Bytes) : Option (Int × Int × Bool × Unit) := acall cx k 18 [.agg (cells .sch s), .str name] []
def ref07_Field_l0_st (s : Sch) (name : Bytes) (i : Int) : St := { tmps := [.undef, .str name, .ptr 0 0, .undef, .undef, .undef, .undef, .int .i64 i, .undef, .undef, .undef, .undef, .undef, .undef, .undef, .undef, .undef, .undef, .undef, .undef, .undef, .undef, .undef, .undef, .undef, .undef, .undef, .undef, .undef, .undef], objs := [.box (cells .sch s)] }
noncomputable def ref07_Field_l0 (k : Nat) (n : Nat) (s : Sch) (name : Bytes) (i : Int) : Option (Int × Int × Bool × Unit) := aresume cx k 18 [.agg (cells .sch s), .str name] [] [1, 0, 1, 0] [n] (ref07_Field_l0_st s name i)
noncomputable def schema_Check (k : Nat) (s : Sch) : Option (Int × Unit) := acall cx k 19 [.agg (cells .sch s)] []
noncomputable def ref07_Check (k : Nat) (s : Sch) : Option (Int × Unit) := acall cx k 20 [.agg (cells .sch s)] []
def ref07_Check_l0_st (s : Sch) (fine : Bool) (i : Int) : St := { tmps := [.undef, .ptr 0 0, .undef, .bool fine, .int .i64 i, .undef, .undef, .undef, .undef, .undef, .undef, .undef, .undef, .undef, .undef, .undef, .undef, .undef, .undef, .undef, .undef, .undef, .undef, .undef, .undef, .undef, .undef, .undef, .undef, .undef, .undef, .undef, .undef, .undef, .undef, .undef, .undef, .undef, .undef, .undef, .undef, .undef, .undef, .undef, .undef, .undef, .undef, .undef, .undef, .undef, .undef, .undef, .undef, .undef, .undef, .undef, .undef, .undef, .undef, .undef, .undef], objs := [.box (cells .sch s)] }
noncomputable def ref07_Check_l0 (k : Nat) (n : Nat) (s : Sch) (fine : Bool) (i : Int) : Option (Int × Unit) := aresume cx k 20 [.agg (cells .sch s)] [] [1, 1, 1, 0, 1, 0] [n] (ref07_Check_l0_st s fine i)
def ref07_Check_j0_st (s : Sch) (d : Fld) (fine : Bool) (i : Int) : St := { tmps := [.undef, .ptr 0 0, .undef, .bool fine, .int .i64 i, .ptr 1 0, .undef, .undef, .undef, .undef, .undef, .undef, .undef, .undef, .undef, .undef, .undef, .undef, .undef, .undef, .undef, .undef, .undef, .undef, .undef, .undef, .undef, .undef, .undef, .undef, .undef, .undef, .undef, .undef, .undef, .undef, .undef, .undef, .undef, .undef, .undef, .undef, .undef, .undef, .undef, .undef, .undef, .undef, .undef, .undef, .undef, .undef, .undef, .undef, .undef, .undef, .undef, .undef, .undef, .undef, .undef], objs := [.box (cells .sch s), .box (cells .fld d)] }
noncomputable def ref07_Check_j0 (k : Nat) (r0 : Nat) (s : Sch) (d : Fld) (fine : Bool) (i : Int) : Option (Int × Unit) := aresume cx k 20 [.agg (cells .sch s)] [] [1, 1, 1, 0, 1, 0, 0, 1, 0, 0, 1, 1] [r0] (ref07_Check_j0_st s d fine i)
def ref07_Check_l1_st (s : Sch) (d : Fld) (fine : Bool) (i : Int) (k_ : Int) : St := { tmps := [.undef, .ptr 0 0, .undef, .bool fine, .int .i64 i, .ptr 1 0, .int .i64 k_, .undef, .undef, .undef, .undef, .undef, .undef, .undef, .undef, .undef, .undef, .undef, .undef, .undef, .undef, .undef, .undef, .undef, .undef, .undef, .undef, .undef, .undef, .undef, .undef, .undef, .undef, .undef, .undef, .undef, .undef, .undef, .undef, .undef, .undef, .undef, .undef, .undef, .undef, .undef, .undef, .undef, .undef, .undef, .undef, .undef, .undef, .undef, .undef, .undef, .undef, .undef, .undef, .undef, .undef], objs := [.box (cells .sch s), .box (cells .fld d)] }
noncomputable def ref07_Check_l1 (k : Nat) (r0 : Nat) (n : Nat) (s : Sch) (d : Fld) (fine : Bool) (i : Int) (k_ : Int) : Option (Int × Unit) := aresume cx k 20 [.agg (cells .sch s)] [] [1, 1, 1, 0, 1, 0, 0, 1, 0, 0, 1, 1, 1, 0] [r0, n] (ref07_Check_l1_st s d fine i k_)
noncomputable def schema_Book (k : Nat) (l : List Sch) : Option (Int × Unit) := acall cx k 8 [.sl .sch false l] []
def schema_Book_l0_st (l : List Sch) (t14 : Int) : St := { tmps := [.sl .sch false l, .undef, .undef, .undef, .undef, .undef, .undef, .undef, .undef, .undef, .undef, .undef, .sl .sch false l, .int .i64 ((List.length l : Nat) : Int), .int .i64 t14, .undef, .undef, .undef, .undef, .undef, .undef, .undef, .undef, .undef, .undef, .undef, .undef, .undef, .undef, .undef, .undef, .undef, .undef, .undef, .undef, .undef], objs := [] }
noncomputable def schema_Book_l0 (k : Nat) (n : Nat) (l : List Sch) (t14 : Int) : Option (Int × Unit) := aresume cx k 8 [.sl .sch false l] [] [1, 1, 0, 1, 0] [n] (schema_Book_l0_st l t14)
def schema_Book_l1_st (l : List Sch) (t27 : Int) (o0_0 : List Bytes) (o0_1 : List Bool) : St := { tmps := [.undef, .undef, .undef, .undef, .undef, .undef, .map 0, .undef, .undef, .undef, .undef, .undef, .undef, .undef, .undef, .undef, .undef, .undef, .undef, .undef, .undef, .undef, .undef, .undef, .undef, .sl .sch false l, .int .i64 ((List.length l : Nat) : Int), .int .i64 t27, .undef, .undef, .undef, .undef, .undef, .undef, .undef, .undef], objs := [.mp .str .bool o0_0 o0_1] }
noncomputable def schema_Book_l1 (k : Nat) (n : Nat) (l : List Sch) (t27 : Int) (o0_0 : List Bytes) (o0_1 : List Bool) : Option (Int × Unit) := aresume cx k 8 [.sl .sch false l] [] [1, 1, 1, 1, 0, 1, 0] [n] (schema_Book_l1_st l t27 o0_0 o0_1)
noncomputable def ref07_Book (k : Nat) (l : List Sch) : Option (Int × Unit) := acall cx k 21 [.sl .sch false l] []
def ref07_Book_l0_st (l : List Sch) (i : Int) : St := { tmps := [.sl .sch false l, .undef, .undef, .int .i64 i, .undef, .undef, .undef, .undef, .undef, .undef, .undef, .undef, .undef, .undef, .undef, .undef, .undef, .undef, .undef, .undef, .undef, .undef, .undef, .undef, .undef, .undef, .undef, .undef, .undef, .undef, .undef, .undef, .undef, .undef, .undef, .undef, .undef, .undef, .undef, .undef, .undef, .undef, .undef, .undef, .undef, .undef], objs := [] }
noncomputable def ref07_Book_l0 (k : Nat) (n : Nat) (l : List Sch) (i : Int) : Option (Int × Unit) := aresume cx k 21 [.sl .sch false l] [] [1, 1, 0, 1, 0] [n] (ref07_Book_l0_st l i)
def ref07_Book_l1_st (l : List Sch) (i : Int) : St := { tmps := [.sl .sch false l, .undef, .undef, .undef, .undef, .int .i64 i, .undef, .undef, .undef, .undef, .undef, .undef, .undef, .undef, .undef, .undef, .undef, .undef, .undef, .undef, .undef, .undef, .undef, .undef, .undef, .undef, .undef, .undef, .undef, .undef, .undef, .undef, .undef, .undef, .undef, .undef, .undef, .undef, .undef, .undef, .undef, .undef, .undef, .undef, .undef, .undef], objs := [] }
noncomputable def ref07_Book_l1 (k : Nat) (n : Nat) (l : List Sch) (i : Int) : Option (Int × Unit) := aresume cx k 21 [.sl .sch false l] [] [1, 1, 1, 0, 1, 0] [n] (ref07_Book_l1_st l i)
def ref07_Book_l2_st (l : List Sch) (i : Int) (k_ : Int) : St := { tmps := [.sl .sch false l, .undef, .undef, .undef, .undef, .int .i64 i, .int .i64 k_, .undef, .undef, .undef, .undef, .undef, .undef, .undef, .undef, .undef, .undef, .undef, .undef, .undef, .undef, .undef, .undef, .undef, .undef, .undef, .undef, .undef, .undef, .undef, .undef, .undef, .undef, .undef, .undef, .undef, .undef, .undef, .undef, .undef, .undef, .undef, .undef, .undef, .undef, .undef], objs := [] }
noncomputable def ref07_Book_l2 (k : Nat) (r0 : Nat) (n : Nat) (l : List Sch) (i : Int) (k_ : Int) : Option (Int × Unit) := aresume cx k 21 [.sl .sch false l] [] [1, 1, 1, 0, 1, 0, 0, 1, 0, 0, 1, 0] [r0, n] (ref07_Book_l2_st l i k_)
noncomputable def schema_Same (k : Nat) (a : Sch) (b : Sch) : Option (Bool × Unit) := acall cx k 22 [.agg (cells .sch a), .agg (cells .sch b)] []
noncomputable def ref07_Same (k : Nat) (a : Sch) (b : Sch) : Option (Bool × Unit) := acall cx k 23 [.agg (cells .sch a), .agg (cells .sch b)] []
def ref07_Same_j0_st (a : Sch) (b : Sch) : St := { tmps := [.undef, .undef, .ptr 0 0, .ptr 1 0, .undef, .undef, .undef, .undef, .undef, .undef, .undef, .undef, .undef, .undef, .undef, .undef, .undef, .undef, .undef, .undef, .undef, .undef, .undef, .undef, .undef, .undef, .undef, .undef, .undef, .undef, .undef, .undef, .undef, .undef, .undef, .undef, .undef, .undef, .undef, .undef, .undef, .undef, .undef, .undef, .undef], objs := [.box (cells .sch a), .box (cells .sch b)] }
noncomputable def ref07_Same_j0 (k : Nat) (a : Sch) (b : Sch) : Option (Bool × Unit) := aresume cx k 23 [.agg (cells .sch a), .agg (cells .sch b)] [] [1, 1] [] (ref07_Same_j0_st a b)
def ref07_Same_l0_st (a : Sch) (b : Sch) (i : Int) : St := { tmps := [.undef, .undef, .ptr 0 0, .ptr 1 0, .undef, .int .i64 i, .undef, .undef, .undef, .undef, .undef, .undef, .undef, .undef, .undef, .undef, .undef, .undef, .undef, .undef, .undef, .undef, .undef, .undef, .undef, .undef, .undef, .undef, .undef, .undef, .undef, .undef, .undef, .undef, .undef, .undef, .undef, .undef, .undef, .undef, .undef, .undef, .undef, .undef, .undef], objs := [.box (cells .sch a), .box (cells .sch b)] }
noncomputable def ref07_Same_l0 (k : Nat) (n : Nat) (a : Sch) (b : Sch) (i : Int) : Option (Bool × Unit) := aresume cx k 23 [.agg (cells .sch a), .agg (cells .sch b)] [] [1, 1, 0, 1, 0] [n] (ref07_Same_l0_st a b i)
def ref07_Same_j1_st (a : Sch) (b : Sch) (i : Int) : St := { tmps := [.undef, .undef, .ptr 0 0, .ptr 1 0, .undef, .int .i64 i, .undef, .undef, .undef, .undef, .undef, .undef, .undef, .undef, .undef, .undef, .undef, .undef, .undef, .undef, .undef, .undef, .undef, .undef, .undef, .undef, .undef, .undef, .undef, .undef, .undef, .undef, .undef, .undef, .undef, .undef, .undef, .undef, .undef, .undef, .undef, .undef, .undef, .undef, .undef], objs := [.box (cells .sch a), .box (cells .sch b)] }
noncomputable def ref07_Same_j1 (k : Nat) (r0 : Nat) (a : Sch) (b : Sch) (i : Int) : Option (Bool × Unit) := aresume cx k 23 [.agg (cells .sch a), .agg (cells .sch b)] [] [1, 1, 0, 1, 0, 0, 1] [r0] (ref07_Same_j1_st a b i)
noncomputable def law07_awake (k : Nat) : Option (Bool × Unit) := acall cx k 9 [] []
noncomputable def api_Schema (k : Nat) (s : List Sch) (o0 : Bytes) : Option (Bytes × Int × Unit) := acall cx k 32 [.sl .sch false s, .clo 33 [.ptr 0 0]] [.box [.str o0]]
def api_Schema_l0_st (s : List Sch) (o0 : Bytes) (t8 : Int) (o01 : Bytes) : St := { tmps := [.sl .sch false s, .clo 33 [.ptr 0 0], .undef, .undef, .undef, .undef, .undef, .int .i64 ((List.length s : Nat) : Int), .int .i64 t8, .undef, .undef, .undef, .undef, .undef, .undef, .undef, .undef, .undef, .undef], objs := [.box [.str o01]] }
noncomputable def api_Schema_l0 (k : Nat) (n : Nat) (s : List Sch) (o0 : Bytes) (t8 : Int) (o01 : Bytes) : Option (Bytes × Int × Unit) := aresume cx k 32 [.sl .sch false s, .clo 33 [.ptr 0 0]] [.box [.str o0]] [1, 0, 1, 0] [n] (api_Schema_l0_st s o0 t8 o01)
noncomputable def api_Field (k : Nat) (s : List Fld) (o0 : Bytes) : Option (Bytes × Int × Unit) := acall cx k 34 [.sl .fld false s, .clo 35 [.ptr 0 0]] [.box [.str o0]]
def api_Field_l0_st (s : List Fld) (o0 : Bytes) (t8 : Int) (o01 : Bytes) : St := { tmps := [.sl .fld false s, .clo 35 [.ptr 0 0], .undef, .undef, .undef, .undef, .undef, .int .i64 ((List.length s : Nat) : Int), .int .i64 t8, .undef, .undef, .undef, .undef, .undef, .undef, .undef, .undef, .undef, .undef], objs := [.box [.str o01]] }
noncomputable def api_Field_l0 (k : Nat) (n : Nat) (s : List Fld) (o0 : Bytes) (t8 : Int) (o01 : Bytes) : Option (Bytes × Int × Unit) := aresume cx k 34 [.sl .fld false s, .clo 35 [.ptr 0 0]] [.box [.str o0]] [1, 0, 1, 0] [n] (api_Field_l0_st s o0 t8 o01)
noncomputable def word_Name (k : Nat) (s : Bytes) : Option (Bool × Unit) := acall cx k 41 [.str s] []
def word_Name_l0_st (s : Bytes) (o0_1 : Nat) : St := { tmps := [.str s, .undef, .undef, .undef, .undef, .undef, .it 0, .undef, .undef, .undef, .undef, .undef, .undef, .undef, .undef, .undef, .undef, .undef, .undef, .undef, .undef, .undef, .undef, .undef, .undef, .undef, .undef, .undef, .undef, .undef], objs := [.sit s o0_1] }
noncomputable def word_Name_l0 (k : Nat) (n : Nat) (s : Bytes) (o0_1 : Nat) : Option (Bool × Unit) := aresume cx k 41 [.str s] [] [1, 0, 1, 0] [n] (word_Name_l0_st s o0_1)
noncomputable def api_Field_2 (k : Nat) (s : List Fld) (o0 : List Bytes) (o1 : List Bool) : Option (List Bytes × List Bool × Bool × Unit) := acall cx k 42 [.sl .fld false s, .clo 40 [.ptr 0 0]] [.box [.map 1], .mp .str .bool o0 o1]
noncomputable def ref05_Name (k : Nat) (s : Bytes) : Option (Bool × Unit) := acall cx k 43 [.str s] []
def ref05_Name_l0_st (s : Bytes) (i : Int) : St := { tmps := [.str s, .undef, .undef, .int .i64 i, .undef, .undef, .undef, .undef, .undef, .undef, .undef, .undef, .undef, .undef, .undef, .undef, .undef, .undef, .undef, .undef, .undef, .undef, .undef, .undef, .undef, .undef, .undef, .undef], objs := [] }
noncomputable def ref05_Name_l0 (k : Nat) (n : Nat) (s : Bytes) (i : Int) : Option (Bool × Unit) := aresume cx k 43 [.str s] [] [1, 0, 1, 0] [n] (ref05_Name_l0_st s i)
noncomputable def schema_names_again (k : Nat) (s : Bytes) (o0 : List Bytes) (o1 : List Bool) : Option (List Bytes × List Bool × Bool × Unit) := acall cx k 31 [.map 0, .str s] [.mp .str .bool o0 o1]
noncomputable def api_Field_3 (k : Nat) (s1 : List Fld) (s2 : List Fld) : Option (Bool × Unit) := acall cx k 44 [.sl .fld false s1, .sl .fld false s2] []
def api_Field_3_l0_st (s1 : List Fld) (s2 : List Fld) (t13 : Int) : St := { tmps := [.sl .fld false s1, .sl .fld false s2, .undef, .undef, .undef, .undef, .undef, .undef, .undef, .undef, .undef, .undef, .int .i64 ((List.length s1 : Nat) : Int), .int .i64 t13, .undef, .undef, .undef, .undef, .undef, .undef, .undef, .undef, .undef, .undef, .undef, .undef], objs := [] }
noncomputable def api_Field_3_l0 (k : Nat) (n : Nat) (s1 : List Fld) (s2 : List Fld) (t13 : Int) : Option (Bool × Unit) := aresume cx k 44 [.sl .fld false s1, .sl .fld false s2] [] [1, 1, 0, 1, 0] [n] (api_Field_3_l0_st s1 s2 t13)
noncomputable def schema_Find_1 (k : Nat) (s : Sch) (o0 : Bytes) : Option (Bytes × Bool × Unit) := acall cx k 33 [.agg (cells .sch s), .ptr 0 0] [.box [.str o0]]
noncomputable def schema_Field_1 (k : Nat) (f : Fld) (o0 : Bytes) : Option (Bytes × Bool × Unit) := acall cx k 35 [.agg (cells .fld f), .ptr 0 0] [.box [.str o0]]
noncomputable def word_isSign (k : Nat) (r : Int) : Option (Bool × Unit) := acall cx k 57 [.int .i32 r] []
noncomputable def word_isLower (k : Nat) (r : Int) : Option (Bool × Unit) := acall cx k 58 [.int .i32 r] []
noncomputable def api_Field_4 (k : Nat) (s : List Fld) (o0 : List Bytes) (o1 : List Bool) : Option (List Bytes × List Bool × Int × Unit) := acall cx k 34 [.sl .fld false s, .clo 40 [.ptr 0 0]] [.box [.map 1], .mp .str .bool o0 o1]
def api_Field_4_l0_st (s : List Fld) (o0 : List Bytes) (o1 : List Bool) (t8 : Int) (o1_0 : List Bytes) (o1_1 : List Bool) : St := { tmps := [.sl .fld false s, .clo 40 [.ptr 0 0], .undef, .undef, .undef, .undef, .undef, .int .i64 ((List.length s : Nat) : Int), .int .i64 t8, .undef, .undef, .undef, .undef, .undef, .undef, .undef, .undef, .undef, .undef], objs := [.box [.map 1], .mp .str .bool o1_0 o1_1] }
noncomputable def api_Field_4_l0 (k : Nat) (n : Nat) (s : List Fld) (o0 : List Bytes) (o1 : List Bool) (t8 : Int) (o1_0 : List Bytes) (o1_1 : List Bool) : Option (List Bytes × List Bool × Int × Unit) := aresume cx k 34 [.sl .fld false s, .clo 40 [.ptr 0 0]] [.box [.map 1], .mp .str .bool o0 o1] [1, 0, 1, 0] [n] (api_Field_4_l0_st s o0 o1 t8 o1_0 o1_1)
noncomputable def ref05_Sign (k : Nat) (c : Int) : Option (Bool × Unit) := acall cx k 59 [.int .u8 c] []
noncomputable def ref05_lower (k : Nat) (c : Int) : Option (Bool × Unit) := acall cx k 60 [.int .u8 c] []
noncomputable def word_isDigit (k : Nat) (r : Int) : Option (Bool × Unit) := acall cx k 66 [.int .i32 r] []
noncomputable def schema_Check_1 (k : Nat) (f : Fld) (o0 : List Bytes) (o1 : List Bool) : Option (List Bytes × List Bool × Bool × Unit) := acall cx k 40 [.agg (cells .fld f), .ptr 0 0] [.box [.map 1], .mp .str .bool o0 o1]
noncomputable def ref05_digit (k : Nat) (c : Int) : Option (Bool × Unit) := acall cx k 67 [.int .u8 c] []
theorem law07_SchemaTells_seg (k : Nat) (l : List Sch) (s : Sch) (name : Bytes) (C : List Nat → List Nat → St → Option (Bool × Unit)) : @Eq (Option (Bool × Unit)) (scall cx k 6 [.sl .sch false l, .agg (cells .sch s), .str name] [] C) (((schema_Find k l name).bind fun r => ((ref07_Find k l name).bind fun r1 => ((schema_Field k s name).bind fun r2 => ((ref07_Field k s name).bind fun r3 => (bif ((r.1 != r1.1) == false) then (bif ((!(r.2.1 == r1.2.1)) == false) then (bif ((r2.1 != r3.1) == false) then (bif ((r2.2.1 != r3.2.1) == false) then (bif ((!(r2.2.2.1 == r3.2.2.1)) == false) then ((schema_Check k s).bind fun r4 => ((ref07_Check k s).bind fun r5 => (bif ((r4.1 != r5.1) == false) then ((schema_Book k l).bind fun r6 => ((ref07_Book k l).bind fun r7 => (bif (r6.1 != r7.1) then some (false, ()) else C [1, 1, 1, 1, 1, 1] [] (law07_SchemaTells_j0_st l s name)))) else some (false, ())))) else some (false, ())) else some (false, ())) else some (false, ())) else some (false, ())) else some (false, ()))))))) := by kernel_rfl
theorem law07_SchemaTells_eq (k : Nat) (l : List Sch) (s : Sch) (name : Bytes) : law07_SchemaTells (k+1) l s name = ((schema_Find k l name).bind fun r => ((ref07_Find k l name).bind fun r1 => ((schema_Field k s name).bind fun r2 => ((ref07_Field k s name).bind fun r3 => (bif ((r.1 != r1.1) == false) then (bif ((!(r.2.1 == r1.2.1)) == false) then (bif ((r2.1 != r3.1) == false) then (bif ((r2.2.1 != r3.2.1) == false) then (bif ((!(r2.2.2.1 == r3.2.2.1)) == false) then ((schema_Check k s).bind fun r4 => ((ref07_Check k s).bind fun r5 => (bif ((r4.1 != r5.1) == false) then ((schema_Book k l).bind fun r6 => ((ref07_Book k l).bind fun r7 => (bif (r6.1 != r7.1) then some (false, ()) else law07_SchemaTells_j0 k l s name))) else some (false, ())))) else some (false, ())) else some (false, ())) else some (false, ())) else some (false, ())) else some (false, ())))))) := (acall_eq k 6 [.sl .sch false l, .agg (cells .sch s), .str name] []).trans (law07_SchemaTells_seg k l s name _)
theorem law07_SchemaTells_j0_seg (k : Nat) (l : List Sch) (s : Sch) (name : Bytes) (C : List Nat → List Nat → St → Option (Bool × Unit)) : @Eq (Option (Bool × Unit)) (sresume cx k 6 [.sl .sch false l, .agg (cells .sch s), .str name] [] [1, 1, 1, 1, 1, 1] [] (law07_SchemaTells_j0_st l s name) C) (C [1, 1, 1, 1, 1, 1, 0, 1, 0] [k] (law07_SchemaTells_l0_st l s name 0)) := by kernel_rfl
theorem law07_SchemaTells_j0_eq (k : Nat) (l : List Sch) (s : Sch) (name : Bytes) : law07_SchemaTells_j0 k l s name = law07_SchemaTells_l0 k k l s name 0 := (aresume_eq (cx := cx) k 6 [.sl .sch false l, .agg (cells .sch s), .str name] [] [1, 1, 1, 1, 1, 1] [] (law07_SchemaTells_j0_st l s name)).trans (law07_SchemaTells_j0_seg k l s name _)
theorem law07_SchemaTells_l0_seg (k : Nat) (n : Nat) (l : List Sch) (s : Sch) (name : Bytes) (k_ : Int) (C : List Nat → List Nat → St → Option (Bool × Unit)) : @Eq (Option (Bool × Unit)) (sresume cx k 6 [.sl .sch false l, .agg (cells .sch s), .str name] [] [1, 1, 1, 1, 1, 1, 0, 1, 0] [n+1] (law07_SchemaTells_l0_st l s name k_) C) ((bif decide (k_ < ((List.length l : Nat) : Int)) then ((idx l k_).bind fun d => ((schema_Same k d s).bind fun r => ((idx l k_).bind fun d1 => ((ref07_Same k d1 s).bind fun r1 => (bif (!(r.1 == r1.1)) then some (false, ()) else C [1, 1, 1, 1, 1, 1, 0, 1, 0] [n] (law07_SchemaTells_l0_st l s name (IntKind.i64.wrap (k_ + 1)))))))) else ((schema_Same k s s).bind fun r => (bif (r.1 == true) then ((law07_awake k).bind fun r1 => some (r1.1, ())) else some (false, ()))))) := by kernel_rfl
theorem law07_SchemaTells_l0_eq (k : Nat) (n : Nat) (l : List Sch) (s : Sch) (name : Bytes) (k_ : Int) : law07_SchemaTells_l0 k (n+1) l s name k_ = (bif decide (k_ < ((List.length l : Nat) : Int)) then ((idx l k_).bind fun d => ((schema_Same k d s).bind fun r => ((idx l k_).bind fun d1 => ((ref07_Same k d1 s).bind fun r1 => (bif (!(r.1 == r1.1)) then some (false, ()) else law07_SchemaTells_l0 k n l s name (IntKind.i64.wrap (k_ + 1))))))) else ((schema_Same k s s).bind fun r => (bif (r.1 == true) then ((law07_awake k).bind fun r1 => some (r1.1, ())) else some (false, ())))) := (aresume_eq (cx := cx) k 6 [.sl .sch false l, .agg (cells .sch s), .str name] [] [1, 1, 1, 1, 1, 1, 0, 1, 0] [n+1] (law07_SchemaTells_l0_st l s name k_)).trans (law07_SchemaTells_l0_seg k n l s name k_ _)
theorem schema_Find_seg (k : Nat) (l : List Sch) (name : Bytes) (C : List Nat → List Nat → St → Option (Int × Bool × Unit)) : @Eq (Option (Int × Bool × Unit)) (scall cx k 10 [.sl .sch false l, .str name] [] C) (((api_Schema k l name).bind fun r => some ((if 0 > r.2.1 then 0 else r.2.1), decide (r.2.1 ≥ 0), ()))) := by kernel_rfl
theorem schema_Find_eq (k : Nat) (l : List Sch) (name : Bytes) : schema_Find (k+1) l name = ((api_Schema k l name).bind fun r => some ((if 0 > r.2.1 then 0 else r.2.1), decide (r.2.1 ≥ 0), ())) := (acall_eq k 10 [.sl .sch false l, .str name] []).trans (schema_Find_seg k l name _)
theorem ref07_Find_seg (k : Nat) (l : List Sch) (name : Bytes) (C : List Nat → List Nat → St → Option (Int × Bool × Unit)) : @Eq (Option (Int × Bool × Unit)) (scall cx k 17 [.sl .sch false l, .str name] [] C) (C [1, 0, 1, 0] [k] (ref07_Find_l0_st l name 0)) := by kernel_rfl
theorem ref07_Find_eq (k : Nat) (l : List Sch) (name : Bytes) : ref07_Find (k+1) l name = ref07_Find_l0 k k l name 0 := (acall_eq k 17 [.sl .sch false l, .str name] []).trans (ref07_Find_seg k l name _)
theorem ref07_Find_l0_seg (k : Nat) (n : Nat) (l : List Sch) (name : Bytes) (i : Int) (C : List Nat → List Nat → St → Option (Int × Bool × Unit)) : @Eq (Option (Int × Bool × Unit)) (sresume cx k 17 [.sl .sch false l, .str name] [] [1, 0, 1, 0] [n+1] (ref07_Find_l0_st l name i) C) ((bif decide (i < ((List.length l : Nat) : Int)) then ((idx l i).bind fun d => (bif (d.name == name) then some (i, true, ()) else C [1, 0, 1, 0] [n] (ref07_Find_l0_st l name (IntKind.i64.wrap (i + 1))))) else some (0, false, ()))) := by kernel_rfl
theorem ref07_Find_l0_eq (k : Nat) (n : Nat) (l : List Sch) (name : Bytes) (i : Int) : ref07_Find_l0 k (n+1) l name i = (bif decide (i < ((List.length l : Nat) : Int)) then ((idx l i).bind fun d => (bif (d.name == name) then some (i, true, ()) else ref07_Find_l0 k n l name (IntKind.i64.wrap (i + 1)))) else some (0, false, ())) := (aresume_eq (cx := cx) k 17 [.sl .sch false l, .str name] [] [1, 0, 1, 0] [n+1] (ref07_Find_l0_st l name i)).trans (ref07_Find_l0_seg k n l name i _)
theorem schema_Field_seg (k : Nat) (s : Sch) (name : Bytes) (C : List Nat → List Nat → St → Option (Int × Int × Bool × Unit)) : @Eq (Option (Int × Int × Bool × Unit)) (scall cx k 11 [.agg (cells .sch s), .str name] [] C) (((api_Field k s.fields name).bind fun r => (bif decide (r.2.1 < 0) then some (0, 0, false, ()) else ((idx s.fields r.2.1).bind fun d => some (r.2.1, d.k, true, ()))))) := by kernel_rfl
theorem schema_Field_eq (k : Nat) (s : Sch) (name : Bytes) : schema_Field (k+1) s name = ((api_Field k s.fields name).bind fun r => (bif decide (r.2.1 < 0) then some (0, 0, false, ()) else ((idx s.fields r.2.1).bind fun d => some (r.2.1, d.k, true, ())))) := (acall_eq k 11 [.agg (cells .sch s), .str name] []).trans (schema_Field_seg k s name _)
theorem ref07_Field_seg (k : Nat) (s : Sch) (name : Bytes) (C : List Nat → List Nat → St → Option (Int × Int × Bool × Unit)) : @Eq (Option (Int × Int × Bool × Unit)) (scall cx k 18 [.agg (cells .sch s), .str name] [] C) (C [1, 0, 1, 0] [k] (ref07_Field_l0_st s name 0)) := by kernel_rfl
theorem ref07_Field_eq (k : Nat) (s : Sch) (name : Bytes) : ref07_Field (k+1) s name = ref07_Field_l0 k k s name 0 := (acall_eq k 18 [.agg (cells .sch s), .str name] []).trans (ref07_Field_seg k s name _)
theorem ref07_Field_l0_seg (k : Nat) (n : Nat) (s : Sch) (name : Bytes) (i : Int) (C : List Nat → List Nat → St → Option (Int × Int × Bool × Unit)) : @Eq (Option (Int × Int × Bool × Unit)) (sresume cx k 18 [.agg (cells .sch s), .str name] [] [1, 0, 1, 0] [n+1] (ref07_Field_l0_st s name i) C) ((bif decide (i < ((List.length s.fields : Nat) : Int)) then ((idx s.fields i).bind fun d => (bif (d.name == name) then ((idx s.fields i).bind fun d1 => some (i, d1.k, true, ())) else C [1, 0, 1, 0] [n] (ref07_Field_l0_st s name (IntKind.i64.wrap (i + 1))))) else some (0, 0, false, ()))) := by kernel_rfl
theorem ref07_Field_l0_eq (k : Nat) (n : Nat) (s : Sch) (name : Bytes) (i : Int) : ref07_Field_l0 k (n+1) s name i = (bif decide (i < ((List.length s.fields : Nat) : Int)) then ((idx s.fields i).bind fun d => (bif (d.name == name) then ((idx s.fields i).bind fun d1 => some (i, d1.k, true, ())) else ref07_Field_l0 k n s name (IntKind.i64.wrap (i + 1)))) else some (0, 0, false, ())) := (aresume_eq (cx := cx) k 18 [.agg (cells .sch s), .str name] [] [1, 0, 1, 0] [n+1] (ref07_Field_l0_st s name i)).trans (ref07_Field_l0_seg k n s name i _)
theorem schema_Check_seg (k : Nat) (s : Sch) (C : List Nat → List Nat → St → Option (Int × Unit)) : @Eq (Option (Int × Unit)) (scall cx k 19 [.agg (cells .sch s)] [] C) ((bif decide (((List.length s.fields : Nat) : Int) > 16) then some (2, ()) else ((word_Name k s.name).bind fun r => (bif ((!r.1) == false) then ((api_Field_2 k s.fields ([] : List Bytes) ([] : List Bool)).bind fun r1 => (bif r1.2.2.1 then some (1, ()) else some (0, ()))) else some (1, ()))))) := by kernel_rfl
theorem schema_Check_eq (k : Nat) (s : Sch) : schema_Check (k+1) s = (bif decide (((List.length s.fields : Nat) : Int) > 16) then some (2, ()) else ((word_Name k s.name).bind fun r => (bif ((!r.1) == false) then ((api_Field_2 k s.fields ([] : List Bytes) ([] : List Bool)).bind fun r1 => (bif r1.2.2.1 then some (1, ()) else some (0, ()))) else some (1, ())))) := (acall_eq k 19 [.agg (cells .sch s)] []).trans (schema_Check_seg k s _)
theorem ref07_Check_seg (k : Nat) (s : Sch) (C : List Nat → List Nat → St → Option (Int × Unit)) : @Eq (Option (Int × Unit)) (scall cx k 20 [.agg (cells .sch s)] [] C) ((bif decide (((List.length s.fields : Nat) : Int) > 16) then some (2, ()) else ((ref05_Name k s.name).bind fun r => C [1, 1, 1, 0, 1, 0] [k] (ref07_Check_l0_st s r.1 0)))) := by kernel_rfl
theorem ref07_Check_eq (k : Nat) (s : Sch) : ref07_Check (k+1) s = (bif decide (((List.length s.fields : Nat) : Int) > 16) then some (2, ()) else ((ref05_Name k s.name).bind fun r => ref07_Check_l0 k k s r.1 0)) := (acall_eq k 20 [.agg (cells .sch s)] []).trans (ref07_Check_seg k s _)
theorem ref07_Check_l0_seg (k : Nat) (n : Nat) (s : Sch) (fine : Bool) (i : Int) (C : List Nat → List Nat → St → Option (Int × Unit)) : @Eq (Option (Int × Unit)) (sresume cx k 20 [.agg (cells .sch s)] [] [1, 1, 1, 0, 1, 0] [n+1] (ref07_Check_l0_st s fine i) C) ((bif decide (i < ((List.length s.fields : Nat) : Int)) then ((idx s.fields i).bind fun d => (bif (fine == true) then ((ref05_Name k d.name).bind fun r => (bif (r.1 == true) then (bif (decide (d.k ≥ 1) == true) then C [1, 1, 1, 0, 1, 0, 0, 1, 0, 0, 1, 1] [n] (ref07_Check_j0_st s d (decide (d.k ≤ 3)) i) else C [1, 1, 1, 0, 1, 0, 0, 1, 0, 0, 1, 1] [n] (ref07_Check_j0_st s d false i)) else C [1, 1, 1, 0, 1, 0, 0, 1, 0, 0, 1, 1] [n] (ref07_Check_j0_st s d false i))) else C [1, 1, 1, 0, 1, 0, 0, 1, 0, 0, 1, 1] [n] (ref07_Check_j0_st s d false i))) else (bif (!fine) then some (1, ()) else some (0, ())))) := by kernel_rfl
theorem ref07_Check_l0_eq (k : Nat) (n : Nat) (s : Sch) (fine : Bool) (i : Int) : ref07_Check_l0 k (n+1) s fine i = (bif decide (i < ((List.length s.fields : Nat) : Int)) then ((idx s.fields i).bind fun d => (bif (fine == true) then ((ref05_Name k d.name).bind fun r => (bif (r.1 == true) then (bif (decide (d.k ≥ 1) == true) then ref07_Check_j0 k n s d (decide (d.k ≤ 3)) i else ref07_Check_j0 k n s d false i) else ref07_Check_j0 k n s d false i)) else ref07_Check_j0 k n s d false i)) else (bif (!fine) then some (1, ()) else some (0, ()))) := (aresume_eq (cx := cx) k 20 [.agg (cells .sch s)] [] [1, 1, 1, 0, 1, 0] [n+1] (ref07_Check_l0_st s fine i)).trans (ref07_Check_l0_seg k n s fine i _)
theorem ref07_Check_j0_seg (k : Nat) (r0 : Nat) (s : Sch) (d : Fld) (fine : Bool) (i : Int) (C : List Nat → List Nat → St → Option (Int × Unit)) : @Eq (Option (Int × Unit)) (sresume cx k 20 [.agg (cells .sch s)] [] [1, 1, 1, 0, 1, 0, 0, 1, 0, 0, 1, 1] [r0] (ref07_Check_j0_st s d fine i) C) (C [1, 1, 1, 0, 1, 0, 0, 1, 0, 0, 1, 1, 1, 0] [r0, k] (ref07_Check_l1_st s d fine i 0)) := by kernel_rfl
theorem ref07_Check_j0_eq (k : Nat) (r0 : Nat) (s : Sch) (d : Fld) (fine : Bool) (i : Int) : ref07_Check_j0 k r0 s d fine i = ref07_Check_l1 k r0 k s d fine i 0 := (aresume_eq (cx := cx) k 20 [.agg (cells .sch s)] [] [1, 1, 1, 0, 1, 0, 0, 1, 0, 0, 1, 1] [r0] (ref07_Check_j0_st s d fine i)).trans (ref07_Check_j0_seg k r0 s d fine i _)
theorem ref07_Check_l1_seg (k : Nat) (r0 : Nat) (n : Nat) (s : Sch) (d : Fld) (fine : Bool) (i : Int) (k_ : Int) (C : List Nat → List Nat → St → Option (Int × Unit)) : @Eq (Option (Int × Unit)) (sresume cx k 20 [.agg (cells .sch s)] [] [1, 1, 1, 0, 1, 0, 0, 1, 0, 0, 1, 1, 1, 0] [r0, n+1] (ref07_Check_l1_st s d fine i k_) C) ((bif decide (k_ < i) then (bif (fine == true) then ((idx s.fields k_).bind fun d1 => C [1, 1, 1, 0, 1, 0, 0, 1, 0, 0, 1, 1, 1, 0] [r0, n] (ref07_Check_l1_st s d (!(d1.name == d.name)) i (IntKind.i64.wrap (k_ + 1)))) else C [1, 1, 1, 0, 1, 0, 0, 1, 0, 0, 1, 1, 1, 0] [r0, n] (ref07_Check_l1_st s d false i (IntKind.i64.wrap (k_ + 1)))) else C [1, 1, 1, 0, 1, 0] [r0] (ref07_Check_l0_st s fine (IntKind.i64.wrap (i + 1))))) := by kernel_rfl
theorem ref07_Check_l1_eq (k : Nat) (r0 : Nat) (n : Nat) (s : Sch) (d : Fld) (fine : Bool) (i : Int) (k_ : Int) : ref07_Check_l1 k r0 (n+1) s d fine i k_ = (bif decide (k_ < i) then (bif (fine == true) then ((idx s.fields k_).bind fun d1 => ref07_Check_l1 k r0 n s d (!(d1.name == d.name)) i (IntKind.i64.wrap (k_ + 1))) else ref07_Check_l1 k r0 n s d false i (IntKind.i64.wrap (k_ + 1))) else ref07_Check_l0 k r0 s fine (IntKind.i64.wrap (i + 1))) := (aresume_eq (cx := cx) k 20 [.agg (cells .sch s)] [] [1, 1, 1, 0, 1, 0, 0, 1, 0, 0, 1, 1, 1, 0] [r0, n+1] (ref07_Check_l1_st s d fine i k_)).trans (ref07_Check_l1_seg k r0 n s d fine i k_ _)
theorem schema_Book_seg (k : Nat) (l : List Sch) (C : List Nat → List Nat → St → Option (Int × Unit)) : @Eq (Option (Int × Unit)) (scall cx k 8 [.sl .sch false l] [] C) ((bif decide (((List.length l : Nat) : Int) > 16) then some (2, ()) else C [1, 1, 0, 1, 0] [k] (schema_Book_l0_st l 0))) := by kernel_rfl
theorem schema_Book_eq (k : Nat) (l : List Sch) : schema_Book (k+1) l = (bif decide (((List.length l : Nat) : Int) > 16) then some (2, ()) else schema_Book_l0 k k l 0) := (acall_eq k 8 [.sl .sch false l] []).trans (schema_Book_seg k l _)
theorem schema_Book_l0_seg (k : Nat) (n : Nat) (l : List Sch) (t14 : Int) (C : List Nat → List Nat → St → Option (Int × Unit)) : @Eq (Option (Int × Unit)) (sresume cx k 8 [.sl .sch false l] [] [1, 1, 0, 1, 0] [n+1] (schema_Book_l0_st l t14) C) ((bif decide (t14 < ((List.length l : Nat) : Int)) then ((idx l t14).bind fun d => ((schema_Check k d).bind fun r => (bif (r.1 != 0) then some (r.1, ()) else C [1, 1, 0, 1, 0] [n] (schema_Book_l0_st l (IntKind.i64.wrap (t14 + 1)))))) else C [1, 1, 1, 1, 0, 1, 0] [k] (schema_Book_l1_st l 0 ([] : List Bytes) ([] : List Bool)))) := by kernel_rfl
theorem schema_Book_l0_eq (k : Nat) (n : Nat) (l : List Sch) (t14 : Int) : schema_Book_l0 k (n+1) l t14 = (bif decide (t14 < ((List.length l : Nat) : Int)) then ((idx l t14).bind fun d => ((schema_Check k d).bind fun r => (bif (r.1 != 0) then some (r.1, ()) else schema_Book_l0 k n l (IntKind.i64.wrap (t14 + 1))))) else schema_Book_l1 k k l 0 ([] : List Bytes) ([] : List Bool)) := (aresume_eq (cx := cx) k 8 [.sl .sch false l] [] [1, 1, 0, 1, 0] [n+1] (schema_Book_l0_st l t14)).trans (schema_Book_l0_seg k n l t14 _)
theorem schema_Book_l1_seg (k : Nat) (n : Nat) (l : List Sch) (t27 : Int) (o0_0 : List Bytes) (o0_1 : List Bool) (C : List Nat → List Nat → St → Option (Int × Unit)) : @Eq (Option (Int × Unit)) (sresume cx k 8 [.sl .sch false l] [] [1, 1, 1, 1, 0, 1, 0] [n+1] (schema_Book_l1_st l t27 o0_0 o0_1) C) ((bif decide (t27 < ((List.length l : Nat) : Int)) then ((idx l t27).bind fun d => ((schema_names_again k d.name o0_0 o0_1).bind fun r => (bif r.2.2.1 then some (4, ()) else C [1, 1, 1, 1, 0, 1, 0] [n] (schema_Book_l1_st l (IntKind.i64.wrap (t27 + 1)) r.1 r.2.1)))) else some (0, ()))) := by kernel_rfl
theorem schema_Book_l1_eq (k : Nat) (n : Nat) (l : List Sch) (t27 : Int) (o0_0 : List Bytes) (o0_1 : List Bool) : schema_Book_l1 k (n+1) l t27 o0_0 o0_1 = (bif decide (t27 < ((List.length l : Nat) : Int)) then ((idx l t27).bind fun d => ((schema_names_again k d.name o0_0 o0_1).bind fun r => (bif r.2.2.1 then some (4, ()) else schema_Book_l1 k n l (IntKind.i64.wrap (t27 + 1)) r.1 r.2.1))) else some (0, ())) := (aresume_eq (cx := cx) k 8 [.sl .sch false l] [] [1, 1, 1, 1, 0, 1, 0] [n+1] (schema_Book_l1_st l t27 o0_0 o0_1)).trans (schema_Book_l1_seg k n l t27 o0_0 o0_1 _)
theorem ref07_Book_seg (k : Nat) (l : List Sch) (C : List Nat → List Nat → St → Option (Int × Unit)) : @Eq (Option (Int × Unit)) (scall cx k 21 [.sl .sch false l] [] C) ((bif decide (((List.length l : Nat) : Int) > 16) then some (2, ()) else C [1, 1, 0, 1, 0] [k] (ref07_Book_l0_st l 0))) := by kernel_rfl
theorem ref07_Book_eq (k : Nat) (l : List Sch) : ref07_Book (k+1) l = (bif decide (((List.length l : Nat) : Int) > 16) then some (2, ()) else ref07_Book_l0 k k l 0) := (acall_eq k 21 [.sl .sch false l] []).trans (ref07_Book_seg k l _)
theorem ref07_Book_l0_seg (k : Nat) (n : Nat) (l : List Sch) (i : Int) (C : List Nat → List Nat → St → Option (Int × Unit)) : @Eq (Option (Int × Unit)) (sresume cx k 21 [.sl .sch false l] [] [1, 1, 0, 1, 0] [n+1] (ref07_Book_l0_st l i) C) ((bif decide (i < ((List.length l : Nat) : Int)) then ((idx l i).bind fun d => ((ref07_Check k d).bind fun r => (bif (r.1 != 0) then some (r.1, ()) else C [1, 1, 0, 1, 0] [n] (ref07_Book_l0_st l (IntKind.i64.wrap (i + 1)))))) else C [1, 1, 1, 0, 1, 0] [k] (ref07_Book_l1_st l 0))) := by kernel_rfl
theorem ref07_Book_l0_eq (k : Nat) (n : Nat) (l : List Sch) (i : Int) : ref07_Book_l0 k (n+1) l i = (bif decide (i < ((List.length l : Nat) : Int)) then ((idx l i).bind fun d => ((ref07_Check k d).bind fun r => (bif (r.1 != 0) then some (r.1, ()) else ref07_Book_l0 k n l (IntKind.i64.wrap (i + 1))))) else ref07_Book_l1 k k l 0) := (aresume_eq (cx := cx) k 21 [.sl .sch false l] [] [1, 1, 0, 1, 0] [n+1] (ref07_Book_l0_st l i)).trans (ref07_Book_l0_seg k n l i _)
theorem ref07_Book_l1_seg (k : Nat) (n : Nat) (l : List Sch) (i : Int) (C : List Nat → List Nat → St → Option (Int × Unit)) : @Eq (Option (Int × Unit)) (sresume cx k 21 [.sl .sch false l] [] [1, 1, 1, 0, 1, 0] [n+1] (ref07_Book_l1_st l i) C) ((bif decide (i < ((List.length l : Nat) : Int)) then C [1, 1, 1, 0, 1, 0, 0, 1, 0, 0, 1, 0] [n, k] (ref07_Book_l2_st l i 0) else some (0, ()))) := by kernel_rfl
theorem ref07_Book_l1_eq (k : Nat) (n : Nat) (l : List Sch) (i : Int) : ref07_Book_l1 k (n+1) l i = (bif decide (i < ((List.length l : Nat) : Int)) then ref07_Book_l2 k n k l i 0 else some (0, ())) := (aresume_eq (cx := cx) k 21 [.sl .sch false l] [] [1, 1, 1, 0, 1, 0] [n+1] (ref07_Book_l1_st l i)).trans (ref07_Book_l1_seg k n l i _)
theorem ref07_Book_l2_seg (k : Nat) (r0 : Nat) (n : Nat) (l : List Sch) (i : Int) (k_ : Int) (C : List Nat → List Nat → St → Option (Int × Unit)) : @Eq (Option (Int × Unit)) (sresume cx k 21 [.sl .sch false l] [] [1, 1, 1, 0, 1, 0, 0, 1, 0, 0, 1, 0] [r0, n+1] (ref07_Book_l2_st l i k_) C) ((bif decide (k_ < i) then ((idx l k_).bind fun d => ((idx l i).bind fun d1 => (bif (d.name == d1.name) then some (4, ()) else C [1, 1, 1, 0, 1, 0, 0, 1, 0, 0, 1, 0] [r0, n] (ref07_Book_l2_st l i (IntKind.i64.wrap (k_ + 1)))))) else C [1, 1, 1, 0, 1, 0] [r0] (ref07_Book_l1_st l (IntKind.i64.wrap (i + 1))))) := by kernel_rfl
theorem ref07_Book_l2_eq (k : Nat) (r0 : Nat) (n : Nat) (l : List Sch) (i : Int) (k_ : Int) : ref07_Book_l2 k r0 (n+1) l i k_ = (bif decide (k_ < i) then ((idx l k_).bind fun d => ((idx l i).bind fun d1 => (bif (d.name == d1.name) then some (4, ()) else ref07_Book_l2 k r0 n l i (IntKind.i64.wrap (k_ + 1))))) else ref07_Book_l1 k r0 l (IntKind.i64.wrap (i + 1))) := (aresume_eq (cx := cx) k 21 [.sl .sch false l] [] [1, 1, 1, 0, 1, 0, 0, 1, 0, 0, 1, 0] [r0, n+1] (ref07_Book_l2_st l i k_)).trans (ref07_Book_l2_seg k r0 n l i k_ _)
theorem schema_Same_seg (k : Nat) (a : Sch) (b : Sch) (C : List Nat → List Nat → St → Option (Bool × Unit)) : @Eq (Option (Bool × Unit)) (scall cx k 22 [.agg (cells .sch a), .agg (cells .sch b)] [] C) ((bif ((a.name == b.name) == true) then ((api_Field_3 k a.fields b.fields).bind fun r => some (r.1, ())) else some (false, ()))) := by kernel_rfl
theorem schema_Same_eq (k : Nat) (a : Sch) (b : Sch) : schema_Same (k+1) a b = (bif ((a.name == b.name) == true) then ((api_Field_3 k a.fields b.fields).bind fun r => some (r.1, ())) else some (false, ())) := (acall_eq k 22 [.agg (cells .sch a), .agg (cells .sch b)] []).trans (schema_Same_seg k a b _)
theorem ref07_Same_seg (k : Nat) (a : Sch) (b : Sch) (C : List Nat → List Nat → St → Option (Bool × Unit)) : @Eq (Option (Bool × Unit)) (scall cx k 23 [.agg (cells .sch a), .agg (cells .sch b)] [] C) ((bif ((!(a.name == b.name)) == false) then (bif (((List.length a.fields : Nat) : Int) != ((List.length b.fields : Nat) : Int)) then some (false, ()) else C [1, 1] [] (ref07_Same_j0_st a b)) else some (false, ()))) := by kernel_rfl
theorem ref07_Same_eq (k : Nat) (a : Sch) (b : Sch) : ref07_Same (k+1) a b = (bif ((!(a.name == b.name)) == false) then (bif (((List.length a.fields : Nat) : Int) != ((List.length b.fields : Nat) : Int)) then some (false, ()) else ref07_Same_j0 k a b) else some (false, ())) := (acall_eq k 23 [.agg (cells .sch a), .agg (cells .sch b)] []).trans (ref07_Same_seg k a b _)
theorem ref07_Same_j0_seg (k : Nat) (a : Sch) (b : Sch) (C : List Nat → List Nat → St → Option (Bool × Unit)) : @Eq (Option (Bool × Unit)) (sresume cx k 23 [.agg (cells .sch a), .agg (cells .sch b)] [] [1, 1] [] (ref07_Same_j0_st a b) C) (C [1, 1, 0, 1, 0] [k] (ref07_Same_l0_st a b 0)) := by kernel_rfl
theorem ref07_Same_j0_eq (k : Nat) (a : Sch) (b : Sch) : ref07_Same_j0 k a b = ref07_Same_l0 k k a b 0 := (aresume_eq (cx := cx) k 23 [.agg (cells .sch a), .agg (cells .sch b)] [] [1, 1] [] (ref07_Same_j0_st a b)).trans (ref07_Same_j0_seg k a b _)
theorem ref07_Same_l0_seg (k : Nat) (n : Nat) (a : Sch) (b : Sch) (i : Int) (C : List Nat → List Nat → St → Option (Bool × Unit)) : @Eq (Option (Bool × Unit)) (sresume cx k 23 [.agg (cells .sch a), .agg (cells .sch b)] [] [1, 1, 0, 1, 0] [n+1] (ref07_Same_l0_st a b i) C) ((bif (decide (i < ((List.length a.fields : Nat) : Int)) == true) then (bif decide (i < ((List.length b.fields : Nat) : Int)) then C [1, 1, 0, 1, 0, 0, 1] [n] (ref07_Same_j1_st a b i) else some (true, ())) else some (true, ()))) := by kernel_rfl
theorem ref07_Same_l0_eq (k : Nat) (n : Nat) (a : Sch) (b : Sch) (i : Int) : ref07_Same_l0 k (n+1) a b i = (bif (decide (i < ((List.length a.fields : Nat) : Int)) == true) then (bif decide (i < ((List.length b.fields : Nat) : Int)) then ref07_Same_j1 k n a b i else some (true, ())) else some (true, ())) := (aresume_eq (cx := cx) k 23 [.agg (cells .sch a), .agg (cells .sch b)] [] [1, 1, 0, 1, 0] [n+1] (ref07_Same_l0_st a b i)).trans (ref07_Same_l0_seg k n a b i _)
theorem ref07_Same_j1_seg (k : Nat) (r0 : Nat) (a : Sch) (b : Sch) (i : Int) (C : List Nat → List Nat → St → Option (Bool × Unit)) : @Eq (Option (Bool × Unit)) (sresume cx k 23 [.agg (cells .sch a), .agg (cells .sch b)] [] [1, 1, 0, 1, 0, 0, 1] [r0] (ref07_Same_j1_st a b i) C) (((idx a.fields i).bind fun d => ((idx b.fields i).bind fun d1 => (bif (!((d.name == d1.name) && (d.k == d1.k))) then some (false, ()) else C [1, 1, 0, 1, 0] [r0] (ref07_Same_l0_st a b (IntKind.i64.wrap (i + 1))))))) := by kernel_rfl
theorem ref07_Same_j1_eq (k : Nat) (r0 : Nat) (a : Sch) (b : Sch) (i : Int) : ref07_Same_j1 k r0 a b i = ((idx a.fields i).bind fun d => ((idx b.fields i).bind fun d1 => (bif (!((d.name == d1.name) && (d.k == d1.k))) then some (false, ()) else ref07_Same_l0 k r0 a b (IntKind.i64.wrap (i + 1))))) := (aresume_eq (cx := cx) k 23 [.agg (cells .sch a), .agg (cells .sch b)] [] [1, 1, 0, 1, 0, 0, 1] [r0] (ref07_Same_j1_st a b i)).trans (ref07_Same_j1_seg k r0 a b i _)
theorem api_Schema_seg (k : Nat) (s : List Sch) (o0 : Bytes) (C : List Nat → List Nat → St → Option (Bytes × Int × Unit)) : @Eq (Option (Bytes × Int × Unit)) (scall cx k 32 [.sl .sch false s, .clo 33 [.ptr 0 0]] [.box [.str o0]] C) (C [1, 0, 1, 0] [k] (api_Schema_l0_st s o0 0 o0)) := by kernel_rfl
theorem api_Schema_eq (k : Nat) (s : List Sch) (o0 : Bytes) : api_Schema (k+1) s o0 = api_Schema_l0 k k s o0 0 o0 := (acall_eq k 32 [.sl .sch false s, .clo 33 [.ptr 0 0]] [.box [.str o0]]).trans (api_Schema_seg k s o0 _)
theorem api_Schema_l0_seg (k : Nat) (n : Nat) (s : List Sch) (o0 : Bytes) (t8 : Int) (o01 : Bytes) (C : List Nat → List Nat → St → Option (Bytes × Int × Unit)) : @Eq (Option (Bytes × Int × Unit)) (sresume cx k 32 [.sl .sch false s, .clo 33 [.ptr 0 0]] [.box [.str o0]] [1, 0, 1, 0] [n+1] (api_Schema_l0_st s o0 t8 o01) C) ((bif decide (t8 < ((List.length s : Nat) : Int)) then ((idx s t8).bind fun d => ((schema_Find_1 k d o01).bind fun r => (bif r.2.1 then some (r.1, t8, ()) else C [1, 0, 1, 0] [n] (api_Schema_l0_st s o0 (IntKind.i64.wrap (t8 + 1)) r.1)))) else some (o01, (-1), ()))) := by kernel_rfl
theorem api_Schema_l0_eq (k : Nat) (n : Nat) (s : List Sch) (o0 : Bytes) (t8 : Int) (o01 : Bytes) : api_Schema_l0 k (n+1) s o0 t8 o01 = (bif decide (t8 < ((List.length s : Nat) : Int)) then ((idx s t8).bind fun d => ((schema_Find_1 k d o01).bind fun r => (bif r.2.1 then some (r.1, t8, ()) else api_Schema_l0 k n s o0 (IntKind.i64.wrap (t8 + 1)) r.1))) else some (o01, (-1), ())) := (aresume_eq (cx := cx) k 32 [.sl .sch false s, .clo 33 [.ptr 0 0]] [.box [.str o0]] [1, 0, 1, 0] [n+1] (api_Schema_l0_st s o0 t8 o01)).trans (api_Schema_l0_seg k n s o0 t8 o01 _)
theorem api_Field_seg (k : Nat) (s : List Fld) (o0 : Bytes) (C : List Nat → List Nat → St → Option (Bytes × Int × Unit)) : @Eq (Option (Bytes × Int × Unit)) (scall cx k 34 [.sl .fld false s, .clo 35 [.ptr 0 0]] [.box [.str o0]] C) (C [1, 0, 1, 0] [k] (api_Field_l0_st s o0 0 o0)) := by kernel_rfl
theorem api_Field_eq (k : Nat) (s : List Fld) (o0 : Bytes) : api_Field (k+1) s o0 = api_Field_l0 k k s o0 0 o0 := (acall_eq k 34 [.sl .fld false s, .clo 35 [.ptr 0 0]] [.box [.str o0]]).trans (api_Field_seg k s o0 _)
theorem api_Field_l0_seg (k : Nat) (n : Nat) (s : List Fld) (o0 : Bytes) (t8 : Int) (o01 : Bytes) (C : List Nat → List Nat → St → Option (Bytes × Int × Unit)) : @Eq (Option (Bytes × Int × Unit)) (sresume cx k 34 [.sl .fld false s, .clo 35 [.ptr 0 0]] [.box [.str o0]] [1, 0, 1, 0] [n+1] (api_Field_l0_st s o0 t8 o01) C) ((bif decide (t8 < ((List.length s : Nat) : Int)) then ((idx s t8).bind fun d => ((schema_Field_1 k d o01).bind fun r => (bif r.2.1 then some (r.1, t8, ()) else C [1, 0, 1, 0] [n] (api_Field_l0_st s o0 (IntKind.i64.wrap (t8 + 1)) r.1)))) else some (o01, (-1), ()))) := by kernel_rfl
theorem api_Field_l0_eq (k : Nat) (n : Nat) (s : List Fld) (o0 : Bytes) (t8 : Int) (o01 : Bytes) : api_Field_l0 k (n+1) s o0 t8 o01 = (bif decide (t8 < ((List.length s : Nat) : Int)) then ((idx s t8).bind fun d => ((schema_Field_1 k d o01).bind fun r => (bif r.2.1 then some (r.1, t8, ()) else api_Field_l0 k n s o0 (IntKind.i64.wrap (t8 + 1)) r.1))) else some (o01, (-1), ())) := (aresume_eq (cx := cx) k 34 [.sl .fld false s, .clo 35 [.ptr 0 0]] [.box [.str o0]] [1, 0, 1, 0] [n+1] (api_Field_l0_st s o0 t8 o01)).trans (api_Field_l0_seg k n s o0 t8 o01 _)
theorem word_Name_seg (k : Nat) (s : Bytes) (C : List Nat → List Nat → St → Option (Bool × Unit)) : @Eq (Option (Bool × Unit)) (scall cx k 41 [.str s] [] C) (C [1, 0, 1, 0] [k] (word_Name_l0_st s 0)) := by kernel_rfl
theorem word_Name_eq (k : Nat) (s : Bytes) : word_Name (k+1) s = word_Name_l0 k k s 0 := (acall_eq k 41 [.str s] []).trans (word_Name_seg k s _)
theorem word_Name_l0_seg (k : Nat) (n : Nat) (s : Bytes) (o0_1 : Nat) (C : List Nat → List Nat → St → Option (Bool × Unit)) : @Eq (Option (Bool × Unit)) (sresume cx k 41 [.str s] [] [1, 0, 1, 0] [n+1] (word_Name_l0_st s o0_1) C) ((bif decide (o0_1 < List.length s) then ((word_isSign k ((runeC s o0_1 : Nat) : Int)).bind fun r => (bif ((!r.1) == false) then (bif ((((o0_1 : Nat) : Int) == 0) == true) then ((word_isLower k ((runeC s o0_1 : Nat) : Int)).bind fun r1 => (bif (!r1.1) then some (false, ()) else C [1, 0, 1, 0] [n] (word_Name_l0_st s (o0_1 + runeW s o0_1)))) else C [1, 0, 1, 0] [n] (word_Name_l0_st s (o0_1 + runeW s o0_1))) else some (false, ()))) else (bif ((!(s == ([] : Bytes))) == true) then some (decide (((List.length s : Nat) : Int) ≤ 32), ()) else some (false, ())))) := by kernel_rfl
theorem word_Name_l0_eq (k : Nat) (n : Nat) (s : Bytes) (o0_1 : Nat) : word_Name_l0 k (n+1) s o0_1 = (bif decide (o0_1 < List.length s) then ((word_isSign k ((runeC s o0_1 : Nat) : Int)).bind fun r => (bif ((!r.1) == false) then (bif ((((o0_1 : Nat) : Int) == 0) == true) then ((word_isLower k ((runeC s o0_1 : Nat) : Int)).bind fun r1 => (bif (!r1.1) then some (false, ()) else word_Name_l0 k n s (o0_1 + runeW s o0_1))) else word_Name_l0 k n s (o0_1 + runeW s o0_1)) else some (false, ()))) else (bif ((!(s == ([] : Bytes))) == true) then some (decide (((List.length s : Nat) : Int) ≤ 32), ()) else some (false, ()))) := (aresume_eq (cx := cx) k 41 [.str s] [] [1, 0, 1, 0] [n+1] (word_Name_l0_st s o0_1)).trans (word_Name_l0_seg k n s o0_1 _)
theorem api_Field_2_seg (k : Nat) (s : List Fld) (o0 : List Bytes) (o1 : List Bool) (C : List Nat → List Nat → St → Option (List Bytes × List Bool × Bool × Unit)) : @Eq (Option (List Bytes × List Bool × Bool × Unit)) (scall cx k 42 [.sl .fld false s, .clo 40 [.ptr 0 0]] [.box [.map 1], .mp .str .bool o0 o1] C) (((api_Field_4 k s o0 o1).bind fun r => some (r.1, r.2.1, decide (r.2.2.1 ≥ 0), ()))) := by kernel_rfl
theorem api_Field_2_eq (k : Nat) (s : List Fld) (o0 : List Bytes) (o1 : List Bool) : api_Field_2 (k+1) s o0 o1 = ((api_Field_4 k s o0 o1).bind fun r => some (r.1, r.2.1, decide (r.2.2.1 ≥ 0), ())) := (acall_eq k 42 [.sl .fld false s, .clo 40 [.ptr 0 0]] [.box [.map 1], .mp .str .bool o0 o1]).trans (api_Field_2_seg k s o0 o1 _)
theorem ref05_Name_seg (k : Nat) (s : Bytes) (C : List Nat → List Nat → St → Option (Bool × Unit)) : @Eq (Option (Bool × Unit)) (scall cx k 43 [.str s] [] C) (C [1, 0, 1, 0] [k] (ref05_Name_l0_st s 0)) := by kernel_rfl
theorem ref05_Name_eq (k : Nat) (s : Bytes) : ref05_Name (k+1) s = ref05_Name_l0 k k s 0 := (acall_eq k 43 [.str s] []).trans (ref05_Name_seg k s _)
theorem ref05_Name_l0_seg (k : Nat) (n : Nat) (s : Bytes) (i : Int) (C : List Nat → List Nat → St → Option (Bool × Unit)) : @Eq (Option (Bool × Unit)) (sresume cx k 43 [.str s] [] [1, 0, 1, 0] [n+1] (ref05_Name_l0_st s i) C) ((bif decide (i < ((List.length s : Nat) : Int)) then ((idx s i).bind fun c => ((ref05_Sign k ((c).toNat : Int)).bind fun r => (bif (!r.1) then some (false, ()) else C [1, 0, 1, 0] [n] (ref05_Name_l0_st s (IntKind.i64.wrap (i + 1)))))) else (bif (decide (((List.length s : Nat) : Int) ≥ 1) == true) then (bif (decide (((List.length s : Nat) : Int) ≤ 32) == true) then ((idx s 0).bind fun c => ((ref05_lower k ((c).toNat : Int)).bind fun r => some (r.1, ()))) else some (false, ())) else some (false, ())))) := by kernel_rfl
theorem ref05_Name_l0_eq (k : Nat) (n : Nat) (s : Bytes) (i : Int) : ref05_Name_l0 k (n+1) s i = (bif decide (i < ((List.length s : Nat) : Int)) then ((idx s i).bind fun c => ((ref05_Sign k ((c).toNat : Int)).bind fun r => (bif (!r.1) then some (false, ()) else ref05_Name_l0 k n s (IntKind.i64.wrap (i + 1))))) else (bif (decide (((List.length s : Nat) : Int) ≥ 1) == true) then (bif (decide (((List.length s : Nat) : Int) ≤ 32) == true) then ((idx s 0).bind fun c => ((ref05_lower k ((c).toNat : Int)).bind fun r => some (r.1, ()))) else some (false, ())) else some (false, ()))) := (aresume_eq (cx := cx) k 43 [.str s] [] [1, 0, 1, 0] [n+1] (ref05_Name_l0_st s i)).trans (ref05_Name_l0_seg k n s i _)
theorem schema_names_again_seg (k : Nat) (s : Bytes) (o0 : List Bytes) (o1 : List Bool) (C : List Nat → List Nat → St → Option (List Bytes × List Bool × Bool × Unit)) : @Eq (Option (List Bytes × List Bool × Bool × Unit)) (scall cx k 31 [.map 0, .str s] [.mp .str .bool o0 o1] C) ((bif (lookM o0 o1 s false) then some (o0, o1, true, ()) else some ((putK o0 s), (putV o0 o1 s true), false, ()))) := by kernel_rfl
theorem schema_names_again_eq (k : Nat) (s : Bytes) (o0 : List Bytes) (o1 : List Bool) : schema_names_again (k+1) s o0 o1 = (bif (lookM o0 o1 s false) then some (o0, o1, true, ()) else some ((putK o0 s), (putV o0 o1 s true), false, ())) := (acall_eq k 31 [.map 0, .str s] [.mp .str .bool o0 o1]).trans (schema_names_again_seg k s o0 o1 _)
theorem api_Field_3_seg (k : Nat) (s1 : List Fld) (s2 : List Fld) (C : List Nat → List Nat → St → Option (Bool × Unit)) : @Eq (Option (Bool × Unit)) (scall cx k 44 [.sl .fld false s1, .sl .fld false s2] [] C) ((bif (((List.length s1 : Nat) : Int) != ((List.length s2 : Nat) : Int)) then some (false, ()) else C [1, 1, 0, 1, 0] [k] (api_Field_3_l0_st s1 s2 0))) := by kernel_rfl
theorem api_Field_3_eq (k : Nat) (s1 : List Fld) (s2 : List Fld) : api_Field_3 (k+1) s1 s2 = (bif (((List.length s1 : Nat) : Int) != ((List.length s2 : Nat) : Int)) then some (false, ()) else api_Field_3_l0 k k s1 s2 0) := (acall_eq k 44 [.sl .fld false s1, .sl .fld false s2] []).trans (api_Field_3_seg k s1 s2 _)
theorem api_Field_3_l0_seg (k : Nat) (n : Nat) (s1 : List Fld) (s2 : List Fld) (t13 : Int) (C : List Nat → List Nat → St → Option (Bool × Unit)) : @Eq (Option (Bool × Unit)) (sresume cx k 44 [.sl .fld false s1, .sl .fld false s2] [] [1, 1, 0, 1, 0] [n+1] (api_Field_3_l0_st s1 s2 t13) C) ((bif decide (t13 < ((List.length s1 : Nat) : Int)) then ((idx s1 t13).bind fun d => ((idx s2 t13).bind fun d1 => (bif (!((d.name == d1.name) && (d.k == d1.k))) then some (false, ()) else C [1, 1, 0, 1, 0] [n] (api_Field_3_l0_st s1 s2 (IntKind.i64.wrap (t13 + 1)))))) else some (true, ()))) := by kernel_rfl
theorem api_Field_3_l0_eq (k : Nat) (n : Nat) (s1 : List Fld) (s2 : List Fld) (t13 : Int) : api_Field_3_l0 k (n+1) s1 s2 t13 = (bif decide (t13 < ((List.length s1 : Nat) : Int)) then ((idx s1 t13).bind fun d => ((idx s2 t13).bind fun d1 => (bif (!((d.name == d1.name) && (d.k == d1.k))) then some (false, ()) else api_Field_3_l0 k n s1 s2 (IntKind.i64.wrap (t13 + 1))))) else some (true, ())) := (aresume_eq (cx := cx) k 44 [.sl .fld false s1, .sl .fld false s2] [] [1, 1, 0, 1, 0] [n+1] (api_Field_3_l0_st s1 s2 t13)).trans (api_Field_3_l0_seg k n s1 s2 t13 _)
theorem schema_Find_1_seg (k : Nat) (s : Sch) (o0 : Bytes) (C : List Nat → List Nat → St → Option (Bytes × Bool × Unit)) : @Eq (Option (Bytes × Bool × Unit)) (scall cx k 33 [.agg (cells .sch s), .ptr 0 0] [.box [.str o0]] C) (some (o0, (s.name == o0), ())) := by kernel_rfl
theorem schema_Find_1_eq (k : Nat) (s : Sch) (o0 : Bytes) : schema_Find_1 (k+1) s o0 = some (o0, (s.name == o0), ()) := (acall_eq k 33 [.agg (cells .sch s), .ptr 0 0] [.box [.str o0]]).trans (schema_Find_1_seg k s o0 _)
theorem schema_Field_1_seg (k : Nat) (f : Fld) (o0 : Bytes) (C : List Nat → List Nat → St → Option (Bytes × Bool × Unit)) : @Eq (Option (Bytes × Bool × Unit)) (scall cx k 35 [.agg (cells .fld f), .ptr 0 0] [.box [.str o0]] C) (some (o0, (f.name == o0), ())) := by kernel_rfl
theorem schema_Field_1_eq (k : Nat) (f : Fld) (o0 : Bytes) : schema_Field_1 (k+1) f o0 = some (o0, (f.name == o0), ()) := (acall_eq k 35 [.agg (cells .fld f), .ptr 0 0] [.box [.str o0]]).trans (schema_Field_1_seg k f o0 _)
theorem word_isSign_seg (k : Nat) (r : Int) (C : List Nat → List Nat → St → Option (Bool × Unit)) : @Eq (Option (Bool × Unit)) (scall cx k 57 [.int .i32 r] [] C) (((word_isLower k r).bind fun r1 => (bif (r1.1 == false) then ((word_isDigit k r).bind fun r2 => (bif (r2.1 == false) then some ((r == 95), ()) else some (true, ()))) else some (true, ())))) := by kernel_rfl
theorem word_isSign_eq (k : Nat) (r : Int) : word_isSign (k+1) r = ((word_isLower k r).bind fun r1 => (bif (r1.1 == false) then ((word_isDigit k r).bind fun r2 => (bif (r2.1 == false) then some ((r == 95), ()) else some (true, ()))) else some (true, ()))) := (acall_eq k 57 [.int .i32 r] []).trans (word_isSign_seg k r _)
theorem word_isLower_seg (k : Nat) (r : Int) (C : List Nat → List Nat → St → Option (Bool × Unit)) : @Eq (Option (Bool × Unit)) (scall cx k 58 [.int .i32 r] [] C) ((bif (decide (r ≥ 97) == true) then some (decide (r ≤ 122), ()) else some (false, ()))) := by kernel_rfl
theorem word_isLower_eq (k : Nat) (r : Int) : word_isLower (k+1) r = (bif (decide (r ≥ 97) == true) then some (decide (r ≤ 122), ()) else some (false, ())) := (acall_eq k 58 [.int .i32 r] []).trans (word_isLower_seg k r _)
theorem api_Field_4_seg (k : Nat) (s : List Fld) (o0 : List Bytes) (o1 : List Bool) (C : List Nat → List Nat → St → Option (List Bytes × List Bool × Int × Unit)) : @Eq (Option (List Bytes × List Bool × Int × Unit)) (scall cx k 34 [.sl .fld false s, .clo 40 [.ptr 0 0]] [.box [.map 1], .mp .str .bool o0 o1] C) (C [1, 0, 1, 0] [k] (api_Field_4_l0_st s o0 o1 0 o0 o1)) := by kernel_rfl
theorem api_Field_4_eq (k : Nat) (s : List Fld) (o0 : List Bytes) (o1 : List Bool) : api_Field_4 (k+1) s o0 o1 = api_Field_4_l0 k k s o0 o1 0 o0 o1 := (acall_eq k 34 [.sl .fld false s, .clo 40 [.ptr 0 0]] [.box [.map 1], .mp .str .bool o0 o1]).trans (api_Field_4_seg k s o0 o1 _)
theorem api_Field_4_l0_seg (k : Nat) (n : Nat) (s : List Fld) (o0 : List Bytes) (o1 : List Bool) (t8 : Int) (o1_0 : List Bytes) (o1_1 : List Bool) (C : List Nat → List Nat → St → Option (List Bytes × List Bool × Int × Unit)) : @Eq (Option (List Bytes × List Bool × Int × Unit)) (sresume cx k 34 [.sl .fld false s, .clo 40 [.ptr 0 0]] [.box [.map 1], .mp .str .bool o0 o1] [1, 0, 1, 0] [n+1] (api_Field_4_l0_st s o0 o1 t8 o1_0 o1_1) C) ((bif decide (t8 < ((List.length s : Nat) : Int)) then ((idx s t8).bind fun d => ((schema_Check_1 k d o1_0 o1_1).bind fun r => (bif r.2.2.1 then some (r.1, r.2.1, t8, ()) else C [1, 0, 1, 0] [n] (api_Field_4_l0_st s o0 o1 (IntKind.i64.wrap (t8 + 1)) r.1 r.2.1)))) else some (o1_0, o1_1, (-1), ()))) := by kernel_rfl
theorem api_Field_4_l0_eq (k : Nat) (n : Nat) (s : List Fld) (o0 : List Bytes) (o1 : List Bool) (t8 : Int) (o1_0 : List Bytes) (o1_1 : List Bool) : api_Field_4_l0 k (n+1) s o0 o1 t8 o1_0 o1_1 = (bif decide (t8 < ((List.length s : Nat) : Int)) then ((idx s t8).bind fun d => ((schema_Check_1 k d o1_0 o1_1).bind fun r => (bif r.2.2.1 then some (r.1, r.2.1, t8, ()) else api_Field_4_l0 k n s o0 o1 (IntKind.i64.wrap (t8 + 1)) r.1 r.2.1))) else some (o1_0, o1_1, (-1), ())) := (aresume_eq (cx := cx) k 34 [.sl .fld false s, .clo 40 [.ptr 0 0]] [.box [.map 1], .mp .str .bool o0 o1] [1, 0, 1, 0] [n+1] (api_Field_4_l0_st s o0 o1 t8 o1_0 o1_1)).trans (api_Field_4_l0_seg k n s o0 o1 t8 o1_0 o1_1 _)
theorem ref05_Sign_seg (k : Nat) (c : Int) (C : List Nat → List Nat → St → Option (Bool × Unit)) : @Eq (Option (Bool × Unit)) (scall cx k 59 [.int .u8 c] [] C) (((ref05_lower k c).bind fun r => (bif (r.1 == false) then ((ref05_digit k c).bind fun r1 => (bif (r1.1 == false) then some ((c == 95), ()) else some (true, ()))) else some (true, ())))) := by kernel_rfl
theorem ref05_Sign_eq (k : Nat) (c : Int) : ref05_Sign (k+1) c = ((ref05_lower k c).bind fun r => (bif (r.1 == false) then ((ref05_digit k c).bind fun r1 => (bif (r1.1 == false) then some ((c == 95), ()) else some (true, ()))) else some (true, ()))) := (acall_eq k 59 [.int .u8 c] []).trans (ref05_Sign_seg k c _)
theorem ref05_lower_seg (k : Nat) (c : Int) (C : List Nat → List Nat → St → Option (Bool × Unit)) : @Eq (Option (Bool × Unit)) (scall cx k 60 [.int .u8 c] [] C) ((bif (decide (c ≥ 97) == true) then some (decide (c ≤ 122), ()) else some (false, ()))) := by kernel_rfl
theorem ref05_lower_eq (k : Nat) (c : Int) : ref05_lower (k+1) c = (bif (decide (c ≥ 97) == true) then some (decide (c ≤ 122), ()) else some (false, ())) := (acall_eq k 60 [.int .u8 c] []).trans (ref05_lower_seg k c _)
theorem word_isDigit_seg (k : Nat) (r : Int) (C : List Nat → List Nat → St → Option (Bool × Unit)) : @Eq (Option (Bool × Unit)) (scall cx k 66 [.int .i32 r] [] C) ((bif (decide (r ≥ 48) == true) then some (decide (r ≤ 57), ()) else some (false, ()))) := by kernel_rfl
theorem word_isDigit_eq (k : Nat) (r : Int) : word_isDigit (k+1) r = (bif (decide (r ≥ 48) == true) then some (decide (r ≤ 57), ()) else some (false, ())) := (acall_eq k 66 [.int .i32 r] []).trans (word_isDigit_seg k r _)
theorem schema_Check_1_seg (k : Nat) (f : Fld) (o0 : List Bytes) (o1 : List Bool) (C : List Nat → List Nat → St → Option (List Bytes × List Bool × Bool × Unit)) : @Eq (Option (List Bytes × List Bool × Bool × Unit)) (scall cx k 40 [.agg (cells .fld f), .ptr 0 0] [.box [.map 1], .mp .str .bool o0 o1] C) (((word_Name k f.name).bind fun r => (bif ((!r.1) == false) then (bif (decide (f.k < 1) == false) then (bif (decide (f.k > 3) == false) then ((schema_names_again k f.name o0 o1).bind fun r1 => some (r1.1, r1.2.1, r1.2.2.1, ())) else some (o0, o1, true, ())) else some (o0, o1, true, ())) else some (o0, o1, true, ())))) := by kernel_rfl
theorem schema_Check_1_eq (k : Nat) (f : Fld) (o0 : List Bytes) (o1 : List Bool) : schema_Check_1 (k+1) f o0 o1 = ((word_Name k f.name).bind fun r => (bif ((!r.1) == false) then (bif (decide (f.k < 1) == false) then (bif (decide (f.k > 3) == false) then ((schema_names_again k f.name o0 o1).bind fun r1 => some (r1.1, r1.2.1, r1.2.2.1, ())) else some (o0, o1, true, ())) else some (o0, o1, true, ())) else some (o0, o1, true, ()))) := (acall_eq k 40 [.agg (cells .fld f), .ptr 0 0] [.box [.map 1], .mp .str .bool o0 o1]).trans (schema_Check_1_seg k f o0 o1 _)
theorem ref05_digit_seg (k : Nat) (c : Int) (C : List Nat → List Nat → St → Option (Bool × Unit)) : @Eq (Option (Bool × Unit)) (scall cx k 67 [.int .u8 c] [] C) ((bif (decide (c ≥ 48) == true) then some (decide (c ≤ 57), ()) else some (false, ()))) := by kernel_rfl
theorem ref05_digit_eq (k : Nat) (c : Int) : ref05_digit (k+1) c = (bif (decide (c ≥ 48) == true) then some (decide (c ≤ 57), ()) else some (false, ())) := (acall_eq k 67 [.int .u8 c] []).trans (ref05_digit_seg k c _)
theorem law07_SchemaTells_def : @law07_SchemaTells = fun k l s name => acall cx k 6 [.sl .sch false l, .agg (cells .sch s), .str name] [] := rfl
attribute [irreducible] law07_SchemaTells law07_SchemaTells_j0_st law07_SchemaTells_j0 law07_SchemaTells_l0_st law07_SchemaTells_l0 schema_Find ref07_Find ref07_Find_l0_st ref07_Find_l0 schema_Field ref07_Field ref07_Field_l0_st ref07_Field_l0 schema_Check ref07_Check ref07_Check_l0_st ref07_Check_l0 ref07_Check_j0_st ref07_Check_j0 ref07_Check_l1_st ref07_Check_l1 schema_Book schema_Book_l0_st schema_Book_l0 schema_Book_l1_st schema_Book_l1 ref07_Book ref07_Book_l0_st ref07_Book_l0 ref07_Book_l1_st ref07_Book_l1 ref07_Book_l2_st ref07_Book_l2 schema_Same ref07_Same ref07_Same_j0_st ref07_Same_j0 ref07_Same_l0_st ref07_Same_l0 ref07_Same_j1_st ref07_Same_j1 law07_awake api_Schema api_Schema_l0_st api_Schema_l0 api_Field api_Field_l0_st api_Field_l0 word_Name word_Name_l0_st word_Name_l0 api_Field_2 ref05_Name ref05_Name_l0_st ref05_Name_l0 schema_names_again api_Field_3 api_Field_3_l0_st api_Field_3_l0 schema_Find_1 schema_Field_1 word_isSign word_isLower api_Field_4 api_Field_4_l0_st api_Field_4_l0 ref05_Sign ref05_lower word_isDigit schema_Check_1 ref05_digit
end Go.Ev.HpST
