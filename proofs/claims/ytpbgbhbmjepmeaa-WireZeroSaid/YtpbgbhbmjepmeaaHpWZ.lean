import Derived.Test.YtpbgbhbmjepmeaaProg
import Derived.Test.YtpbgbhbmjepmeaaHpEwG
import Derived.Test.YtpbgbhbmjepmeaaHpEwR
import Derived.KernelRfl
set_option maxRecDepth 20000
set_option linter.unusedVariables false
namespace Go.Ev.HpWZ
def kinds : List Kind := [.other,
  .fn,
  .int .i64,
  .int .i64,
  .bool,
  .int .u8,
  .int .u8,
  .st [(0, 2), (1, 3), (2, 4), (3, 6)] 4 [none, none, none, none] [(.int .i64 0), (.int .i64 0), (.bool false), (.int .u8 0)] true,
  .st [(0, 2), (1, 3), (2, 4), (3, 6)] 4 [none, none, none, none] [(.int .i64 0), (.int .i64 0), (.bool false), (.int .u8 0)] true,
  .str,
  .str,
  .str,
  .int .u64,
  .other,
  .other,
  .ptr 175,
  .ptr 178,
  .ptr 187,
  .st [(0, 17)] 1 [none] [.nilp] false,
  .st [(0, 17)] 1 [none] [.nilp] false,
  .other,
  .int .i32,
  .sl .pat 24 6 80,
  .st [(0, 3), (1, 9), (2, 9), (3, 3), (4, 3), (5, 22)] 6 [none, none, none, none, none, (some .pat)] [(.int .i64 0), (.str []), (.str []), (.int .i64 0), (.int .i64 0), .nils] false,
  .st [(0, 3), (1, 9), (2, 9), (3, 3), (4, 3), (5, 22)] 6 [none, none, none, none, none, (some .pat)] [(.int .i64 0), (.str []), (.str []), (.int .i64 0), (.int .i64 0), .nils] false,
  .sl .str 9 1 16,
  .fn,
  .fn,
  .fn,
  .fn,
  .fn,
  .st [(0, 3), (1, 2), (2, 9)] 3 [none, none, none] [(.int .i64 0), (.int .i64 0), (.str [])] true,
  .st [(0, 3), (1, 2), (2, 9)] 3 [none, none, none] [(.int .i64 0), (.int .i64 0), (.str [])] true,
  .fn,
  .fn,
  .sl .u8 5 1 1,
  .sl (.int .u64) 45 1 8,
  .ptr 71,
  .int .i64,
  .other,
  .fn,
  .ptr 55,
  .other,
  .fn,
  .fn,
  .int .u64,
  .fn,
  .fn,
  .fn,
  .fn,
  .fn,
  .fn,
  .fn,
  .fn,
  .st [(0, 35), (1, 3)] 2 [(some .u8), none] [.nils, (.int .i64 0)] false,
  .st [(0, 35), (1, 3)] 2 [(some .u8), none] [.nils, (.int .i64 0)] false,
  .fn,
  .other,
  .fn,
  .other,
  .fn,
  .fn,
  .fn,
  .fn,
  .fn,
  .fn,
  .fn,
  .fn,
  .st [(0, 35), (1, 4)] 2 [(some .u8), none] [.nils, (.bool false)] false,
  .st [(0, 35), (1, 4)] 2 [(some .u8), none] [.nils, (.bool false)] false,
  .st [(0, 69), (2, 3)] 3 [(some .u8), none, none] [.nils, (.bool false), (.int .i64 0)] false,
  .st [(0, 69), (2, 3)] 3 [(some .u8), none, none] [.nils, (.bool false), (.int .i64 0)] false,
  .ptr 74,
  .st [(0, 69), (2, 3)] 3 [(some .u8), none, none] [.nils, (.bool false), (.int .i64 0)] false,
  .st [(0, 69), (2, 3)] 3 [(some .u8), none, none] [.nils, (.bool false), (.int .i64 0)] false,
  .other,
  .fn,
  .fn,
  .fn,
  .fn,
  .fn,
  .sl (.int .i64) 2 1 8,
  .fn,
  .other,
  .fn,
  .other,
  .fn,
  .fn,
  .sl (.int .i64) 3 1 8,
  .other,
  .fn,
  .fn,
  .fn,
  .fn,
  .other,
  .fn,
  .fn,
  .fn,
  .fn,
  .fn,
  .sl .val 32 3 32,
  .fn,
  .fn,
  .ptr 105,
  .st [(0, 35), (1, 3)] 2 [(some .u8), none] [.nils, (.int .i64 0)] false,
  .st [(0, 35), (1, 3)] 2 [(some .u8), none] [.nils, (.int .i64 0)] false,
  .other,
  .fn,
  .other,
  .fn,
  .fn,
  .fn,
  .fn,
  .fn,
  .fn,
  .fn,
  .fn,
  .fn,
  .fn,
  .fn,
  .fn,
  .fn,
  .fn,
  .fn,
  .fn,
  .other,
  .fn,
  .fn,
  .fn,
  .fn,
  .st [(0, 24), (6, 3)] 7 [none, none, none, none, none, (some .pat), none] [(.int .i64 0), (.str []), (.str []), (.int .i64 0), (.int .i64 0), .nils, (.int .i64 0)] false,
  .st [(0, 24), (6, 3)] 7 [none, none, none, none, none, (some .pat), none] [(.int .i64 0), (.str []), (.str []), (.int .i64 0), (.int .i64 0), .nils, (.int .i64 0)] false,
  .fn,
  .fn,
  .sl .use 137 3 40,
  .fn,
  .st [(0, 9), (1, 9), (2, 3)] 3 [none, none, none] [(.str []), (.str []), (.int .i64 0)] true,
  .st [(0, 9), (1, 9), (2, 3)] 3 [none, none, none] [(.str []), (.str []), (.int .i64 0)] true,
  .fn,
  .fn,
  .other,
  .fn,
  .other,
  .fn,
  .fn,
  .fn,
  .fn,
  .ptr 69,
  .int .u64,
  .other,
  .fn,
  .other,
  .other,
  .fn,
  .fn,
  .fn,
  .fn,
  .fn,
  .fn,
  .fn,
  .mp .str .pat 9 24,
  .mp .str .pat 9 24,
  .other,
  .fn,
  .fn,
  .other,
  .fn,
  .other,
  .fn,
  .fn,
  .fn,
  .fn,
  .fn,
  .fn,
  .st [(0, 17), (1, 17), (2, 17), (3, 9)] 4 [none, none, none, none] [.nilp, .nilp, .nilp, (.str [])] false,
  .st [(0, 17), (1, 17), (2, 17), (3, 9)] 4 [none, none, none, none] [.nilp, .nilp, .nilp, (.str [])] false,
  .other,
  .other,
  .other,
  .int .u32,
  .int .u8,
  .int .u8,
  .fn,
  .ptr 5,
  .int .i32,
  .int .i32,
  .st [(0, 12), (1, 12), (2, 179), (3, 180), (4, 5), (5, 5), (6, 181), (7, 182), (8, 183), (9, 184), (10, 185)] 11 [none, none, none, none, none, none, none, none, none, none, none] [(.int .u64 0), (.int .u64 0), (.int .u32 0), (.int .u8 0), (.int .u8 0), (.int .u8 0), (.int .u8 0), .nilf, .nilp, (.int .i32 0), (.int .i32 0)] false,
  .st [(0, 12), (1, 12), (2, 179), (3, 180), (4, 5), (5, 5), (6, 181), (7, 182), (8, 183), (9, 184), (10, 185)] 11 [none, none, none, none, none, none, none, none, none, none, none] [(.int .u64 0), (.int .u64 0), (.int .u32 0), (.int .u8 0), (.int .u8 0), (.int .u8 0), (.int .u8 0), .nilf, .nilp, (.int .i32 0), (.int .i32 0)] false,
  .other]
def res : List VSh := [.tup [],
  .tup [],
  .tup [],
  .one (.v .bool),
  .one (.v .bool),
  .one (.v .bool),
  .one (.v .bool),
  .one (.v .bool),
  .one (.v .bool),
  .one (.v .bool),
  .one (.v .bool),
  .one (.v .bool),
  .one (.v .bool),
  .one (.v .bool),
  .one (.v .bool),
  .one (.v .bool),
  .one (.v .bool),
  .one (.v (.dat .pat)),
  .one (.v (.dat .pat)),
  .one (.v (.int .i64)),
  .one (.v .bool),
  .tup [.c .undef, .v (.int .i64)],
  .tup [.c .undef, .v (.int .i64)],
  .one (.v .bool),
  .one (.v (.int .i64)),
  .one (.v (.int .i64)),
  .one (.v (.int .i64)),
  .one (.v (.int .i64)),
  .one (.v (.int .i64)),
  .one (.v (.int .i64)),
  .one (.v (.int .i64)),
  .one (.v (.int .i64)),
  .one (.v (.sl .u8)),
  .tup [.v .str, .v (.int .i64)],
  .tup [.v .str, .v (.int .i64)],
  .one (.v .bool),
  .one (.v .bool),
  .one (.v (.int .i64)),
  .one (.v .bool),
  .one (.v .bool),
  .one (.v (.dat .val)),
  .one (.v (.dat .val)),
  .one (.v (.dat .val)),
  .one (.v (.dat .val)),
  .one (.v (.dat .val)),
  .one (.v (.dat .val)),
  .one (.v (.dat .val)),
  .tup [.v (.int .u8), .v (.int .i64)],
  .tup [.v .str, .v (.int .i64)],
  .one (.v (.int .i64)),
  .one (.v (.int .i64)),
  .one (.c .undef),
  .tup [.v (.int .u64), .v (.int .i64)],
  .tup [.v (.int .i64), .v (.int .i64)],
  .tup [.v (.dat .pat), .v .bool],
  .one (.v (.int .i64)),
  .one (.v .bool),
  .tup [.v (.dat .pat), .v .bool],
  .one (.v (.int .i64)),
  .tup [.v (.sl .str), .v (.sl .str), .v (.sl (.int .i64))],
  .tup [.v (.sl .str), .v (.sl .str), .v (.sl (.int .i64))],
  .tup [.v (.dat .pat), .v .bool],
  .tup [.v (.dat .pat), .v .bool],
  .one (.v .bool),
  .one (.v (.int .i64)),
  .one (.v (.int .i64)),
  .one (.v (.int .i64)),
  .one (.v (.int .i64)),
  .one (.v (.int .i64)),
  .one (.v (.int .i64)),
  .one (.v (.int .i64)),
  .one (.v (.int .i64)),
  .tup [.v (.dat .val), .v (.int .i64)],
  .tup [.v (.dat .val), .v (.int .i64)],
  .one (.v (.int .i64)),
  .one (.v .bool),
  .one (.v .str),
  .one (.v (.int .i64)),
  .one (.v (.int .i64)),
  .one (.v (.int .i64)),
  .one (.v .bool),
  .one (.v .bool),
  .one (.v (.int .i64)),
  .one (.v (.sl .u8)),
  .one (.v (.int .i64)),
  .one (.v (.sl .u8)),
  .one (.v (.int .u64)),
  .one (.v (.sl .u8)),
  .one (.v .str),
  .tup [.v .str, .v (.int .i64)],
  .one (.v .str),
  .tup [.v .str, .v (.int .i64)],
  .one (.v (.int .i64)),
  .tup [.v (.int .u64), .v (.int .i64), .v (.int .i64)],
  .one (.v (.int .i64)),
  .one (.c .undef),
  .one (.v .bool),
  .one (.v .bool),
  .one (.v .bool),
  .one (.v .bool),
  .one (.v (.sl .use)),
  .one (.v .bool),
  .one (.v .bool),
  .one (.v .bool),
  .one (.v (.int .u8)),
  .tup [.v (.dat .val), .v (.int .i64)],
  .tup [.v (.int .u8), .v (.int .i64)],
  .tup [.v (.int .i64), .v (.int .i64)],
  .tup [.v .str, .v (.int .i64)],
  .one (.v .bool),
  .one (.v .bool),
  .one (.v .bool),
  .one (.v (.int .i64)),
  .one (.v (.int .u64)),
  .one (.c .undef),
  .one (.c .undef),
  .one (.v .bool),
  .one (.v .str),
  .tup [.v (.int .u64), .v (.int .i64), .v (.int .i64)],
  .tup [],
  .one (.v .bool),
  .one (.v .bool),
  .one (.v .bool),
  .one (.v .bool),
  .one (.v .bool),
  .tup [.c .undef, .v .bool],
  .one (.v .bool),
  .one (.v .bool),
  .one (.v .bool),
  .one (.v .bool),
  .tup [.v (.int .i64), .v (.int .i64), .v (.int .i64)],
  .tup [.v (.int .u64), .v (.int .i64), .v (.int .i64)],
  .one (.v .bool),
  .one (.v .bool),
  .one (.v .bool),
  .one (.v .bool),
  .one (.v (.int .i64)),
  .one (.v .bool),
  .one (.v .bool),
  .one (.v .bool),
  .one (.v (.int .i64)),
  .one (.v .bool),
  .one (.v .bool),
  .one (.v .bool),
  .one (.v .str),
  .tup [],
  .one (.v .str),
  .tup [],
  .one (.v .str),
  .tup [],
  .one (.v .str),
  .tup [],
  .one (.v .str),
  .tup [],
  .one (.v .str),
  .tup [],
  .one (.v (.int .i64)),
  .one (.v .str),
  .tup [],
  .one (.v (.int .i64)),
  .one (.v .str)]
def rty : Nat → List AVal → List AObj → List FSh
  | 95, _, _ => [⟨[.box [.v (.int .i64), .v .str, .v .str, .v (.int .i64), .v (.int .i64), .v (.sl .pat)]], .one (.c (.clo 119 [0]))⟩]
  | f, _, objs => shapes res f objs
def mask : Nat → List Nat → Option (List Nat)
  | 24, [1, 0, 0, 1] => some [0, 1, 5]
  | 24, [1, 1] => some [0, 1]
  | 28, [1, 0, 0, 1] => some [0, 1, 5]
  | 28, [1, 1] => some [0, 1]
  | 30, [1, 0, 0, 1] => some [0, 1, 5]
  | 30, [1, 1] => some [0, 1]
  | 32, [1, 1] => some [0]
  | 47, [1, 0, 0, 1] => some [0, 4]
  | 47, [1, 1] => some [0]
  | 49, [1, 1] => some [0]
  | 50, [1, 0, 0, 1] => some [0, 3]
  | 83, [1, 1, 1, 0, 0] => some [1, 5]
  | 93, [1, 0, 1] => some [0, 1, 17]
  | 93, [1, 1] => some [0, 1]
  | 112, [1, 1, 0, 1, 0] => some [0, 3]
  | 118, [1, 0, 0, 1] => some [0, 1, 18]
  | 118, [1, 0, 1] => some [0, 1]
  | 118, [1, 0, 1, 1, 1, 1, 0, 1, 0] => some [0, 1, 7, 8, 23, 24, 25]
  | 118, [1, 0, 1, 1, 1, 1, 1] => some [0, 1, 7, 8]
  | _, _ => none
noncomputable def cx : Cx := { prog := Go.Proofs.Try.prog, kinds := kinds, rty := rty, mutp := fun _ _ => false, mask := mask }
noncomputable def law02_WireZero (k : Nat) (b : List UInt8) : Option (Bool × Unit) := acall cx k 7 [.sl .u8 false b] []
noncomputable def wire_Reader_Byte (k : Nat)  : Option (Int × Int × Unit) := acall cx k 47 [.nilp] []
def wire_Reader_Byte_j0_st  : St := { tmps := [.nilp, .undef, .undef, .undef, .bool true, .undef, .undef, .undef, .undef, .undef, .undef, .undef, .undef, .undef, .undef, .undef, .undef, .undef, .undef, .undef, .undef, .undef, .undef, .undef, .undef, .undef, .undef, .undef, .undef, .undef, .undef, .undef, .undef, .undef, .undef, .undef, .undef, .undef, .undef, .undef, .undef, .undef], objs := [] }
noncomputable def wire_Reader_Byte_j0 (k : Nat)  : Option (Int × Int × Unit) := aresume cx k 47 [.nilp] [] [1, 0, 0, 1] [] (wire_Reader_Byte_j0_st)
noncomputable def wire_Reader_Text (k : Nat) (most : Int) (o0 : Bool) (o1 : Int) (o2 : List UInt8) : Option (Bool × Int × List UInt8 × Bytes × Int × Unit) := acall cx k 48 [.ptr 0 0, .int .i64 most] [.box [.own 1, .bool o0, .int .i64 o1], .arr .u8 false o2]
noncomputable def wire_Writer_Num (k : Nat) (n_ : Int) : Option (Int × Unit) := acall cx k 24 [.nilp, .int .u64 n_] []
def wire_Writer_Num_j0_st (n_ : Int) : St := { tmps := [.nilp, .int .u64 n_, .undef, .undef, .undef, .bool true, .undef, .undef, .undef, .undef, .undef, .undef, .undef, .undef, .undef, .undef, .undef, .undef, .undef, .undef, .undef, .undef, .undef, .undef, .undef, .undef, .undef, .undef, .undef, .undef, .undef], objs := [] }
noncomputable def wire_Writer_Num_j0 (k : Nat) (n_ : Int) : Option (Int × Unit) := aresume cx k 24 [.nilp, .int .u64 n_] [] [1, 0, 0, 1] [] (wire_Writer_Num_j0_st n_)
noncomputable def wire_Writer_Text (k : Nat) (s : Bytes) (o0 : Bool) (o1 : Int) (o2 : List UInt8) : Option (Bool × Int × List UInt8 × Int × Unit) := acall cx k 28 [.ptr 0 0, .str s] [.box [.own 1, .bool o0, .int .i64 o1], .arr .u8 false o2]
def wire_Writer_Text_j0_st (s : Bytes) (o0 : Bool) (o1 : Int) (o2 : List UInt8) (r : (Bool × Int × List UInt8 × Bool × Unit)) : St := { tmps := [.ptr 0 0, .str s, .undef, .undef, .undef, .bool r.2.2.2.1, .undef, .undef, .undef, .undef, .undef, .undef, .undef, .undef, .undef, .undef, .undef, .undef, .undef, .undef, .undef, .undef, .undef, .undef, .undef, .undef, .undef, .undef, .undef, .undef, .undef, .undef, .undef, .undef, .undef, .undef, .undef, .undef, .undef, .undef, .undef, .undef, .undef, .undef, .undef, .undef, .undef, .undef, .undef], objs := [.box [.own 1, .bool r.1, .int .i64 r.2.1], .arr .u8 false r.2.2.1] }
noncomputable def wire_Writer_Text_j0 (k : Nat) (s : Bytes) (o0 : Bool) (o1 : Int) (o2 : List UInt8) (r : (Bool × Int × List UInt8 × Bool × Unit)) : Option (Bool × Int × List UInt8 × Int × Unit) := aresume cx k 28 [.ptr 0 0, .str s] [.box [.own 1, .bool o0, .int .i64 o1], .arr .u8 false o2] [1, 0, 0, 1] [] (wire_Writer_Text_j0_st s o0 o1 o2 r)
def wire_Writer_Text_j1_st (s : Bytes) (o0 : Bool) (o1 : Int) (o2 : List UInt8) (r2 : (Bool × Int × List UInt8 × Bool × Unit)) : St := { tmps := [.ptr 0 0, .str s, .undef, .undef, .undef, .undef, .undef, .undef, .undef, .undef, .undef, .undef, .undef, .undef, .undef, .undef, .undef, .undef, .undef, .undef, .undef, .undef, .undef, .undef, .undef, .undef, .undef, .undef, .undef, .undef, .undef, .undef, .undef, .undef, .undef, .undef, .undef, .undef, .undef, .undef, .undef, .undef, .undef, .undef, .undef, .undef, .undef, .undef, .undef], objs := [.box [.own 1, .bool r2.1, .int .i64 r2.2.1], .arr .u8 false r2.2.2.1] }
noncomputable def wire_Writer_Text_j1 (k : Nat) (s : Bytes) (o0 : Bool) (o1 : Int) (o2 : List UInt8) (r2 : (Bool × Int × List UInt8 × Bool × Unit)) : Option (Bool × Int × List UInt8 × Int × Unit) := aresume cx k 28 [.ptr 0 0, .str s] [.box [.own 1, .bool o0, .int .i64 o1], .arr .u8 false o2] [1, 1] [] (wire_Writer_Text_j1_st s o0 o1 o2 r2)
noncomputable def wire_Writer_Byte (k : Nat) (c : Int) : Option (Int × Unit) := acall cx k 30 [.nilp, .int .u8 c] []
def wire_Writer_Byte_j0_st (c : Int) : St := { tmps := [.nilp, .int .u8 c, .undef, .undef, .undef, .bool true, .undef, .undef, .undef, .undef, .undef, .undef, .undef, .undef, .undef, .undef, .undef, .undef, .undef, .undef, .undef, .undef, .undef, .undef, .undef, .undef, .undef, .undef, .undef, .undef, .undef, .undef, .undef, .undef, .undef, .undef, .undef, .undef, .undef, .undef, .undef, .undef, .undef], objs := [] }
noncomputable def wire_Writer_Byte_j0 (k : Nat) (c : Int) : Option (Int × Unit) := aresume cx k 30 [.nilp, .int .u8 c] [] [1, 0, 0, 1] [] (wire_Writer_Byte_j0_st c)
noncomputable def wire_Writer_Done (k : Nat) (o0 : Bool) (o1 : Int) (o2 : List UInt8) : Option (Bool × Int × List UInt8 × List UInt8 × Unit) := acall cx k 32 [.ptr 0 0] [.box [.own 1, .bool o0, .int .i64 o1], .arr .u8 false o2]
def wire_Writer_Done_j0_st (o0 : Bool) (o1 : Int) (o2 : List UInt8) (r : (Bool × Int × List UInt8 × Bool × Unit)) : St := { tmps := [.ptr 0 0, .undef, .undef, .undef, .undef, .undef, .undef, .undef, .undef, .undef, .undef, .undef, .undef, .undef, .undef, .undef, .undef], objs := [.box [.own 1, .bool r.1, .int .i64 r.2.1], .arr .u8 false r.2.2.1] }
noncomputable def wire_Writer_Done_j0 (k : Nat) (o0 : Bool) (o1 : Int) (o2 : List UInt8) (r : (Bool × Int × List UInt8 × Bool × Unit)) : Option (Bool × Int × List UInt8 × List UInt8 × Unit) := aresume cx k 32 [.ptr 0 0] [.box [.own 1, .bool o0, .int .i64 o1], .arr .u8 false o2] [1, 1] [] (wire_Writer_Done_j0_st o0 o1 o2 r)
noncomputable def wire_Reader_At (k : Nat)  : Option (Int × Unit) := acall cx k 49 [.nilp] []
noncomputable def wire_Reader_End (k : Nat) (o0 : Bool) (o1 : Int) (o2 : List UInt8) : Option (Bool × Int × List UInt8 × Int × Unit) := acall cx k 50 [.ptr 0 0] [.box [.own 1, .bool o0, .int .i64 o1], .arr .u8 false o2]
def wire_Reader_End_j0_st (o0 : Bool) (o1 : Int) (o2 : List UInt8) (r : (Bool × Int × List UInt8 × Bool × Unit)) : St := { tmps := [.ptr 0 0, .undef, .undef, .bool r.2.2.2.1, .undef, .undef, .undef, .undef, .undef, .undef, .undef, .undef, .undef, .undef, .undef, .undef, .undef, .undef, .undef, .undef, .undef, .undef], objs := [.box [.own 1, .bool r.1, .int .i64 r.2.1], .arr .u8 false r.2.2.1] }
noncomputable def wire_Reader_End_j0 (k : Nat) (o0 : Bool) (o1 : Int) (o2 : List UInt8) (r : (Bool × Int × List UInt8 × Bool × Unit)) : Option (Bool × Int × List UInt8 × Int × Unit) := aresume cx k 50 [.ptr 0 0] [.box [.own 1, .bool o0, .int .i64 o1], .arr .u8 false o2] [1, 0, 0, 1] [] (wire_Reader_End_j0_st o0 o1 o2 r)
noncomputable def wire_Reader_take (k : Nat) (most : Int) (o0 : Bool) (o1 : Int) (o2 : List UInt8) : Option (Bool × Int × List UInt8 × Int × Int × Int × Unit) := acall cx k 93 [.ptr 0 0, .int .u64 most] [.box [.own 1, .bool o0, .int .i64 o1], .arr .u8 false o2]
def wire_Reader_take_j0_st (most : Int) (o0 : Bool) (o1 : Int) (o2 : List UInt8) (r : (Bool × Int × List UInt8 × Bool × Unit)) : St := { tmps := [.ptr 0 0, .int .u64 most, .undef, .undef, .undef, .undef, .undef, .undef, .undef, .undef, .undef, .undef, .undef, .undef, .undef, .undef, .undef, .bool r.2.2.2.1, .undef, .undef, .undef, .undef, .undef, .undef, .undef, .undef, .undef, .undef, .undef, .undef, .undef, .undef, .undef, .undef, .undef, .undef, .undef, .undef, .undef, .undef, .undef, .undef], objs := [.box [.own 1, .bool r.1, .int .i64 r.2.1], .arr .u8 false r.2.2.1] }
noncomputable def wire_Reader_take_j0 (k : Nat) (most : Int) (o0 : Bool) (o1 : Int) (o2 : List UInt8) (r : (Bool × Int × List UInt8 × Bool × Unit)) : Option (Bool × Int × List UInt8 × Int × Int × Int × Unit) := aresume cx k 93 [.ptr 0 0, .int .u64 most] [.box [.own 1, .bool o0, .int .i64 o1], .arr .u8 false o2] [1, 0, 1] [] (wire_Reader_take_j0_st most o0 o1 o2 r)
def wire_Reader_take_j1_st (most : Int) (o0 : Bool) (o1 : Int) (o2 : List UInt8) (r : (Bool × Int × List UInt8 × Bool × Unit)) : St := { tmps := [.ptr 0 0, .int .u64 most, .undef, .undef, .undef, .undef, .undef, .undef, .undef, .undef, .undef, .undef, .undef, .undef, .undef, .undef, .undef, .undef, .undef, .undef, .undef, .undef, .undef, .undef, .undef, .undef, .undef, .undef, .undef, .undef, .undef, .undef, .undef, .undef, .undef, .undef, .undef, .undef, .undef, .undef, .undef, .undef], objs := [.box [.own 1, .bool r.1, .int .i64 r.2.1], .arr .u8 false r.2.2.1] }
noncomputable def wire_Reader_take_j1 (k : Nat) (most : Int) (o0 : Bool) (o1 : Int) (o2 : List UInt8) (r : (Bool × Int × List UInt8 × Bool × Unit)) : Option (Bool × Int × List UInt8 × Int × Int × Int × Unit) := aresume cx k 93 [.ptr 0 0, .int .u64 most] [.box [.own 1, .bool o0, .int .i64 o1], .arr .u8 false o2] [1, 1] [] (wire_Reader_take_j1_st most o0 o1 o2 r)
noncomputable def wire_row_len (k : Nat) (o0 : Bool) (o1 : Int) (o2 : List UInt8) : Option (Bool × Int × List UInt8 × Int × Unit) := acall cx k 92 [.ptr 0 0] [.box [.own 1, .bool o0, .int .i64 o1], .arr .u8 false o2]
noncomputable def wire_row_none (k : Nat) (o0 : Bool) (o1 : Int) (o2 : List UInt8) : Option (Bool × Int × List UInt8 × Bool × Unit) := acall cx k 80 [.ptr 0 0] [.box [.own 1, .bool o0, .int .i64 o1], .arr .u8 false o2]
noncomputable def vint_Size (k : Nat) (n_ : Int) : Option (Int × Unit) := acall cx k 82 [.int .u64 n_] []
noncomputable def wire_Writer_room (k : Nat) (n_ : Int) (o0 : Bool) (o1 : Int) (o2 : List UInt8) : Option (Bool × Int × List UInt8 × Bool × Unit) := acall cx k 81 [.ptr 0 0, .int .i64 n_] [.box [.own 1, .bool o0, .int .i64 o1], .arr .u8 false o2]
noncomputable def vint_Put (k : Nat) (b : List UInt8) (n_ : Int) : Option (List UInt8 × Unit) := acall cx k 83 [.sl .u8 false b, .int .u64 n_] []
noncomputable def vint_Get (k : Nat) (b : List UInt8) (at_ : Int) : Option (Int × Int × Int × Unit) := acall cx k 118 [.sl .u8 false b, .int .i64 at_] []
noncomputable def vint_groups_uint64 (k : Nat) (n_ : Int) : Option (Int × Unit) := acall cx k 112 [.int .u64 n_] []
def vint_groups_uint64_l0_st (n_ : Int) (n_1 : Int) (k_ : Int) : St := { tmps := [.int .u64 n_1, .undef, .undef, .int .i64 k_, .undef, .undef, .undef, .undef, .undef, .undef, .undef, .undef, .undef], objs := [] }
noncomputable def vint_groups_uint64_l0 (k : Nat) (n : Nat) (n_ : Int) (n_1 : Int) (k_ : Int) : Option (Int × Unit) := aresume cx k 112 [.int .u64 n_] [] [1, 1, 0, 1, 0] [n] (vint_groups_uint64_l0_st n_ n_1 k_)
theorem law02_WireZero_seg (k : Nat) (b : List UInt8) (C : List Nat → List Nat → St → Option (Bool × Unit)) : @Eq (Option (Bool × Unit)) (scall cx k 7 [.sl .u8 false b] [] C) (((wire_Reader_Byte k).bind fun r => ((wire_Reader_Text k 3 false 0 ([] : List UInt8)).bind fun r1 => (bif ((r.2.1 == 7) == true) then (bif ((r1.2.2.2.2.1 == 7) == true) then ((wire_Writer_Num k 1).bind fun r2 => (bif ((r2.1 == 7) == true) then ((wire_Writer_Text k b false 0 ([] : List UInt8)).bind fun r3 => (bif ((r3.2.2.2.1 == 7) == true) then ((wire_Writer_Byte k 1).bind fun r4 => (bif ((r4.1 == 7) == true) then ((wire_Writer_Done k r3.1 r3.2.1 r3.2.2.1).bind fun r5 => (bif ((((List.length r5.2.2.2.1 : Nat) : Int) == 0) == true) then ((wire_Reader_At k).bind fun r6 => (bif ((r6.1 == 0) == true) then ((wire_Reader_End k r1.1 r1.2.1 r1.2.2.1).bind fun r7 => some ((r7.2.2.2.1 == 7), ())) else some (false, ()))) else some (false, ()))) else some (false, ()))) else some (false, ()))) else some (false, ()))) else some (false, ())) else some (false, ()))))) := by kernel_rfl
theorem law02_WireZero_eq (k : Nat) (b : List UInt8) : law02_WireZero (k+1) b = ((wire_Reader_Byte k).bind fun r => ((wire_Reader_Text k 3 false 0 ([] : List UInt8)).bind fun r1 => (bif ((r.2.1 == 7) == true) then (bif ((r1.2.2.2.2.1 == 7) == true) then ((wire_Writer_Num k 1).bind fun r2 => (bif ((r2.1 == 7) == true) then ((wire_Writer_Text k b false 0 ([] : List UInt8)).bind fun r3 => (bif ((r3.2.2.2.1 == 7) == true) then ((wire_Writer_Byte k 1).bind fun r4 => (bif ((r4.1 == 7) == true) then ((wire_Writer_Done k r3.1 r3.2.1 r3.2.2.1).bind fun r5 => (bif ((((List.length r5.2.2.2.1 : Nat) : Int) == 0) == true) then ((wire_Reader_At k).bind fun r6 => (bif ((r6.1 == 0) == true) then ((wire_Reader_End k r1.1 r1.2.1 r1.2.2.1).bind fun r7 => some ((r7.2.2.2.1 == 7), ())) else some (false, ()))) else some (false, ()))) else some (false, ()))) else some (false, ()))) else some (false, ()))) else some (false, ())) else some (false, ())))) := (acall_eq k 7 [.sl .u8 false b] []).trans (law02_WireZero_seg k b _)
theorem wire_Reader_Byte_seg (k : Nat)  (C : List Nat → List Nat → St → Option (Int × Int × Unit)) : @Eq (Option (Int × Int × Unit)) (scall cx k 47 [.nilp] [] C) (C [1, 0, 0, 1] [] (wire_Reader_Byte_j0_st)) := by kernel_rfl
theorem wire_Reader_Byte_eq (k : Nat)  : wire_Reader_Byte (k+1)  = wire_Reader_Byte_j0 k := (acall_eq k 47 [.nilp] []).trans (wire_Reader_Byte_seg k  _)
theorem wire_Reader_Byte_j0_seg (k : Nat)  (C : List Nat → List Nat → St → Option (Int × Int × Unit)) : @Eq (Option (Int × Int × Unit)) (sresume cx k 47 [.nilp] [] [1, 0, 0, 1] [] (wire_Reader_Byte_j0_st) C) (some (0, 7, ())) := by kernel_rfl
theorem wire_Reader_Byte_j0_eq (k : Nat)  : wire_Reader_Byte_j0 k = some (0, 7, ()) := (aresume_eq (cx := cx) k 47 [.nilp] [] [1, 0, 0, 1] [] (wire_Reader_Byte_j0_st)).trans (wire_Reader_Byte_j0_seg k  _)
theorem wire_Reader_Text_seg (k : Nat) (most : Int) (o0 : Bool) (o1 : Int) (o2 : List UInt8) (C : List Nat → List Nat → St → Option (Bool × Int × List UInt8 × Bytes × Int × Unit)) : @Eq (Option (Bool × Int × List UInt8 × Bytes × Int × Unit)) (scall cx k 48 [.ptr 0 0, .int .i64 most] [.box [.own 1, .bool o0, .int .i64 o1], .arr .u8 false o2] C) (((wire_Reader_take k (IntKind.u64.wrap (if 0 > most then 0 else most)) o0 o1 o2).bind fun r => (bif (r.2.2.2.2.2.1 != 0) then some (r.1, r.2.1, r.2.2.1, ([] : Bytes), r.2.2.2.2.2.1, ()) else (bif decide (most < 0) then some (r.1, r.2.1, r.2.2.1, ([] : Bytes), 4, ()) else ((wire_row_len k r.1 r.2.1 r.2.2.1).bind fun r1 => (bif decide (r.2.2.2.1 > (IntKind.u64.wrap (IntKind.i64.wrap (r1.2.2.2.1 - r.2.2.2.2.1)))) then some (r1.1, r1.2.1, r1.2.2.1, ([] : Bytes), 3, ()) else ((bnd (.int .i64 (IntKind.i64.wrap (r.2.2.2.2.1 + (IntKind.i64.wrap r.2.2.2.1)))) (List.length r1.2.2.1)).bind fun h => ((bnd (.int .i64 r.2.2.2.2.1) h).bind fun l => ((bnd (.int .i64 (IntKind.i64.wrap (r.2.2.2.2.1 + (IntKind.i64.wrap r.2.2.2.1)))) (List.length r1.2.2.1)).bind fun m => (bif (m == h && true) then none else none)))))))))) := by kernel_rfl
theorem wire_Reader_Text_eq (k : Nat) (most : Int) (o0 : Bool) (o1 : Int) (o2 : List UInt8) : wire_Reader_Text (k+1) most o0 o1 o2 = ((wire_Reader_take k (IntKind.u64.wrap (if 0 > most then 0 else most)) o0 o1 o2).bind fun r => (bif (r.2.2.2.2.2.1 != 0) then some (r.1, r.2.1, r.2.2.1, ([] : Bytes), r.2.2.2.2.2.1, ()) else (bif decide (most < 0) then some (r.1, r.2.1, r.2.2.1, ([] : Bytes), 4, ()) else ((wire_row_len k r.1 r.2.1 r.2.2.1).bind fun r1 => (bif decide (r.2.2.2.1 > (IntKind.u64.wrap (IntKind.i64.wrap (r1.2.2.2.1 - r.2.2.2.2.1)))) then some (r1.1, r1.2.1, r1.2.2.1, ([] : Bytes), 3, ()) else ((bnd (.int .i64 (IntKind.i64.wrap (r.2.2.2.2.1 + (IntKind.i64.wrap r.2.2.2.1)))) (List.length r1.2.2.1)).bind fun h => ((bnd (.int .i64 r.2.2.2.2.1) h).bind fun l => ((bnd (.int .i64 (IntKind.i64.wrap (r.2.2.2.2.1 + (IntKind.i64.wrap r.2.2.2.1)))) (List.length r1.2.2.1)).bind fun m => (bif (m == h && true) then none else none))))))))) := (acall_eq k 48 [.ptr 0 0, .int .i64 most] [.box [.own 1, .bool o0, .int .i64 o1], .arr .u8 false o2]).trans (wire_Reader_Text_seg k most o0 o1 o2 _)
theorem wire_Writer_Num_seg (k : Nat) (n_ : Int) (C : List Nat → List Nat → St → Option (Int × Unit)) : @Eq (Option (Int × Unit)) (scall cx k 24 [.nilp, .int .u64 n_] [] C) (C [1, 0, 0, 1] [] (wire_Writer_Num_j0_st n_)) := by kernel_rfl
theorem wire_Writer_Num_eq (k : Nat) (n_ : Int) : wire_Writer_Num (k+1) n_ = wire_Writer_Num_j0 k n_ := (acall_eq k 24 [.nilp, .int .u64 n_] []).trans (wire_Writer_Num_seg k n_ _)
theorem wire_Writer_Num_j0_seg (k : Nat) (n_ : Int) (C : List Nat → List Nat → St → Option (Int × Unit)) : @Eq (Option (Int × Unit)) (sresume cx k 24 [.nilp, .int .u64 n_] [] [1, 0, 0, 1] [] (wire_Writer_Num_j0_st n_) C) (some (7, ())) := by kernel_rfl
theorem wire_Writer_Num_j0_eq (k : Nat) (n_ : Int) : wire_Writer_Num_j0 k n_ = some (7, ()) := (aresume_eq (cx := cx) k 24 [.nilp, .int .u64 n_] [] [1, 0, 0, 1] [] (wire_Writer_Num_j0_st n_)).trans (wire_Writer_Num_j0_seg k n_ _)
theorem wire_Writer_Text_seg (k : Nat) (s : Bytes) (o0 : Bool) (o1 : Int) (o2 : List UInt8) (C : List Nat → List Nat → St → Option (Bool × Int × List UInt8 × Int × Unit)) : @Eq (Option (Bool × Int × List UInt8 × Int × Unit)) (scall cx k 28 [.ptr 0 0, .str s] [.box [.own 1, .bool o0, .int .i64 o1], .arr .u8 false o2] C) (((wire_row_none k o0 o1 o2).bind fun r => C [1, 0, 0, 1] [] (wire_Writer_Text_j0_st s o0 o1 o2 r))) := by kernel_rfl
theorem wire_Writer_Text_eq (k : Nat) (s : Bytes) (o0 : Bool) (o1 : Int) (o2 : List UInt8) : wire_Writer_Text (k+1) s o0 o1 o2 = ((wire_row_none k o0 o1 o2).bind fun r => wire_Writer_Text_j0 k s o0 o1 o2 r) := (acall_eq k 28 [.ptr 0 0, .str s] [.box [.own 1, .bool o0, .int .i64 o1], .arr .u8 false o2]).trans (wire_Writer_Text_seg k s o0 o1 o2 _)
theorem wire_Writer_Text_j0_seg (k : Nat) (s : Bytes) (o0 : Bool) (o1 : Int) (o2 : List UInt8) (r : (Bool × Int × List UInt8 × Bool × Unit)) (C : List Nat → List Nat → St → Option (Bool × Int × List UInt8 × Int × Unit)) : @Eq (Option (Bool × Int × List UInt8 × Int × Unit)) (sresume cx k 28 [.ptr 0 0, .str s] [.box [.own 1, .bool o0, .int .i64 o1], .arr .u8 false o2] [1, 0, 0, 1] [] (wire_Writer_Text_j0_st s o0 o1 o2 r) C) ((bif r.2.2.2.1 then some (r.1, r.2.1, r.2.2.1, 7, ()) else (bif (decide (((List.length s : Nat) : Int) > r.2.1) == false) then ((vint_Size k (IntKind.u64.wrap ((List.length s : Nat) : Int))).bind fun r1 => ((wire_Writer_room k (IntKind.i64.wrap (r1.1 + ((List.length s : Nat) : Int))) r.1 r.2.1 r.2.2.1).bind fun r2 => (bif (!r2.2.2.2.1) then some (r2.1, r2.2.1, r2.2.2.1, 2, ()) else C [1, 1] [] (wire_Writer_Text_j1_st s o0 o1 o2 r2)))) else some (r.1, r.2.1, r.2.2.1, 2, ())))) := by kernel_rfl
theorem wire_Writer_Text_j0_eq (k : Nat) (s : Bytes) (o0 : Bool) (o1 : Int) (o2 : List UInt8) (r : (Bool × Int × List UInt8 × Bool × Unit)) : wire_Writer_Text_j0 k s o0 o1 o2 r = (bif r.2.2.2.1 then some (r.1, r.2.1, r.2.2.1, 7, ()) else (bif (decide (((List.length s : Nat) : Int) > r.2.1) == false) then ((vint_Size k (IntKind.u64.wrap ((List.length s : Nat) : Int))).bind fun r1 => ((wire_Writer_room k (IntKind.i64.wrap (r1.1 + ((List.length s : Nat) : Int))) r.1 r.2.1 r.2.2.1).bind fun r2 => (bif (!r2.2.2.2.1) then some (r2.1, r2.2.1, r2.2.2.1, 2, ()) else wire_Writer_Text_j1 k s o0 o1 o2 r2))) else some (r.1, r.2.1, r.2.2.1, 2, ()))) := (aresume_eq (cx := cx) k 28 [.ptr 0 0, .str s] [.box [.own 1, .bool o0, .int .i64 o1], .arr .u8 false o2] [1, 0, 0, 1] [] (wire_Writer_Text_j0_st s o0 o1 o2 r)).trans (wire_Writer_Text_j0_seg k s o0 o1 o2 r _)
theorem wire_Writer_Text_j1_seg (k : Nat) (s : Bytes) (o0 : Bool) (o1 : Int) (o2 : List UInt8) (r2 : (Bool × Int × List UInt8 × Bool × Unit)) (C : List Nat → List Nat → St → Option (Bool × Int × List UInt8 × Int × Unit)) : @Eq (Option (Bool × Int × List UInt8 × Int × Unit)) (sresume cx k 28 [.ptr 0 0, .str s] [.box [.own 1, .bool o0, .int .i64 o1], .arr .u8 false o2] [1, 1] [] (wire_Writer_Text_j1_st s o0 o1 o2 r2) C) (((vint_Put k r2.2.2.1 (IntKind.u64.wrap ((List.length s : Nat) : Int))).bind fun r => none)) := by kernel_rfl
theorem wire_Writer_Text_j1_eq (k : Nat) (s : Bytes) (o0 : Bool) (o1 : Int) (o2 : List UInt8) (r2 : (Bool × Int × List UInt8 × Bool × Unit)) : wire_Writer_Text_j1 k s o0 o1 o2 r2 = ((vint_Put k r2.2.2.1 (IntKind.u64.wrap ((List.length s : Nat) : Int))).bind fun r => none) := (aresume_eq (cx := cx) k 28 [.ptr 0 0, .str s] [.box [.own 1, .bool o0, .int .i64 o1], .arr .u8 false o2] [1, 1] [] (wire_Writer_Text_j1_st s o0 o1 o2 r2)).trans (wire_Writer_Text_j1_seg k s o0 o1 o2 r2 _)
theorem wire_Writer_Byte_seg (k : Nat) (c : Int) (C : List Nat → List Nat → St → Option (Int × Unit)) : @Eq (Option (Int × Unit)) (scall cx k 30 [.nilp, .int .u8 c] [] C) (C [1, 0, 0, 1] [] (wire_Writer_Byte_j0_st c)) := by kernel_rfl
theorem wire_Writer_Byte_eq (k : Nat) (c : Int) : wire_Writer_Byte (k+1) c = wire_Writer_Byte_j0 k c := (acall_eq k 30 [.nilp, .int .u8 c] []).trans (wire_Writer_Byte_seg k c _)
theorem wire_Writer_Byte_j0_seg (k : Nat) (c : Int) (C : List Nat → List Nat → St → Option (Int × Unit)) : @Eq (Option (Int × Unit)) (sresume cx k 30 [.nilp, .int .u8 c] [] [1, 0, 0, 1] [] (wire_Writer_Byte_j0_st c) C) (some (7, ())) := by kernel_rfl
theorem wire_Writer_Byte_j0_eq (k : Nat) (c : Int) : wire_Writer_Byte_j0 k c = some (7, ()) := (aresume_eq (cx := cx) k 30 [.nilp, .int .u8 c] [] [1, 0, 0, 1] [] (wire_Writer_Byte_j0_st c)).trans (wire_Writer_Byte_j0_seg k c _)
theorem wire_Writer_Done_seg (k : Nat) (o0 : Bool) (o1 : Int) (o2 : List UInt8) (C : List Nat → List Nat → St → Option (Bool × Int × List UInt8 × List UInt8 × Unit)) : @Eq (Option (Bool × Int × List UInt8 × List UInt8 × Unit)) (scall cx k 32 [.ptr 0 0] [.box [.own 1, .bool o0, .int .i64 o1], .arr .u8 false o2] C) (((wire_row_none k o0 o1 o2).bind fun r => (bif r.2.2.2.1 then some (r.1, r.2.1, r.2.2.1, ([] : List UInt8), ()) else C [1, 1] [] (wire_Writer_Done_j0_st o0 o1 o2 r)))) := by kernel_rfl
theorem wire_Writer_Done_eq (k : Nat) (o0 : Bool) (o1 : Int) (o2 : List UInt8) : wire_Writer_Done (k+1) o0 o1 o2 = ((wire_row_none k o0 o1 o2).bind fun r => (bif r.2.2.2.1 then some (r.1, r.2.1, r.2.2.1, ([] : List UInt8), ()) else wire_Writer_Done_j0 k o0 o1 o2 r)) := (acall_eq k 32 [.ptr 0 0] [.box [.own 1, .bool o0, .int .i64 o1], .arr .u8 false o2]).trans (wire_Writer_Done_seg k o0 o1 o2 _)
theorem wire_Writer_Done_j0_seg (k : Nat) (o0 : Bool) (o1 : Int) (o2 : List UInt8) (r : (Bool × Int × List UInt8 × Bool × Unit)) (C : List Nat → List Nat → St → Option (Bool × Int × List UInt8 × List UInt8 × Unit)) : @Eq (Option (Bool × Int × List UInt8 × List UInt8 × Unit)) (sresume cx k 32 [.ptr 0 0] [.box [.own 1, .bool o0, .int .i64 o1], .arr .u8 false o2] [1, 1] [] (wire_Writer_Done_j0_st o0 o1 o2 r) C) ((bif decide (List.length r.2.2.1 * 1 ≤ 140737488355328) then some (r.1, r.2.1, r.2.2.1, r.2.2.1, ()) else none)) := by kernel_rfl
theorem wire_Writer_Done_j0_eq (k : Nat) (o0 : Bool) (o1 : Int) (o2 : List UInt8) (r : (Bool × Int × List UInt8 × Bool × Unit)) : wire_Writer_Done_j0 k o0 o1 o2 r = (bif decide (List.length r.2.2.1 * 1 ≤ 140737488355328) then some (r.1, r.2.1, r.2.2.1, r.2.2.1, ()) else none) := (aresume_eq (cx := cx) k 32 [.ptr 0 0] [.box [.own 1, .bool o0, .int .i64 o1], .arr .u8 false o2] [1, 1] [] (wire_Writer_Done_j0_st o0 o1 o2 r)).trans (wire_Writer_Done_j0_seg k o0 o1 o2 r _)
theorem wire_Reader_At_seg (k : Nat)  (C : List Nat → List Nat → St → Option (Int × Unit)) : @Eq (Option (Int × Unit)) (scall cx k 49 [.nilp] [] C) (some (0, ())) := by kernel_rfl
theorem wire_Reader_At_eq (k : Nat)  : wire_Reader_At (k+1)  = some (0, ()) := (acall_eq k 49 [.nilp] []).trans (wire_Reader_At_seg k  _)
theorem wire_Reader_End_seg (k : Nat) (o0 : Bool) (o1 : Int) (o2 : List UInt8) (C : List Nat → List Nat → St → Option (Bool × Int × List UInt8 × Int × Unit)) : @Eq (Option (Bool × Int × List UInt8 × Int × Unit)) (scall cx k 50 [.ptr 0 0] [.box [.own 1, .bool o0, .int .i64 o1], .arr .u8 false o2] C) (((wire_row_none k o0 o1 o2).bind fun r => C [1, 0, 0, 1] [] (wire_Reader_End_j0_st o0 o1 o2 r))) := by kernel_rfl
theorem wire_Reader_End_eq (k : Nat) (o0 : Bool) (o1 : Int) (o2 : List UInt8) : wire_Reader_End (k+1) o0 o1 o2 = ((wire_row_none k o0 o1 o2).bind fun r => wire_Reader_End_j0 k o0 o1 o2 r) := (acall_eq k 50 [.ptr 0 0] [.box [.own 1, .bool o0, .int .i64 o1], .arr .u8 false o2]).trans (wire_Reader_End_seg k o0 o1 o2 _)
theorem wire_Reader_End_j0_seg (k : Nat) (o0 : Bool) (o1 : Int) (o2 : List UInt8) (r : (Bool × Int × List UInt8 × Bool × Unit)) (C : List Nat → List Nat → St → Option (Bool × Int × List UInt8 × Int × Unit)) : @Eq (Option (Bool × Int × List UInt8 × Int × Unit)) (sresume cx k 50 [.ptr 0 0] [.box [.own 1, .bool o0, .int .i64 o1], .arr .u8 false o2] [1, 0, 0, 1] [] (wire_Reader_End_j0_st o0 o1 o2 r) C) ((bif r.2.2.2.1 then some (r.1, r.2.1, r.2.2.1, 7, ()) else none)) := by kernel_rfl
theorem wire_Reader_End_j0_eq (k : Nat) (o0 : Bool) (o1 : Int) (o2 : List UInt8) (r : (Bool × Int × List UInt8 × Bool × Unit)) : wire_Reader_End_j0 k o0 o1 o2 r = (bif r.2.2.2.1 then some (r.1, r.2.1, r.2.2.1, 7, ()) else none) := (aresume_eq (cx := cx) k 50 [.ptr 0 0] [.box [.own 1, .bool o0, .int .i64 o1], .arr .u8 false o2] [1, 0, 0, 1] [] (wire_Reader_End_j0_st o0 o1 o2 r)).trans (wire_Reader_End_j0_seg k o0 o1 o2 r _)
theorem wire_Reader_take_seg (k : Nat) (most : Int) (o0 : Bool) (o1 : Int) (o2 : List UInt8) (C : List Nat → List Nat → St → Option (Bool × Int × List UInt8 × Int × Int × Int × Unit)) : @Eq (Option (Bool × Int × List UInt8 × Int × Int × Int × Unit)) (scall cx k 93 [.ptr 0 0, .int .u64 most] [.box [.own 1, .bool o0, .int .i64 o1], .arr .u8 false o2] C) (((wire_row_none k o0 o1 o2).bind fun r => C [1, 0, 1] [] (wire_Reader_take_j0_st most o0 o1 o2 r))) := by kernel_rfl
theorem wire_Reader_take_eq (k : Nat) (most : Int) (o0 : Bool) (o1 : Int) (o2 : List UInt8) : wire_Reader_take (k+1) most o0 o1 o2 = ((wire_row_none k o0 o1 o2).bind fun r => wire_Reader_take_j0 k most o0 o1 o2 r) := (acall_eq k 93 [.ptr 0 0, .int .u64 most] [.box [.own 1, .bool o0, .int .i64 o1], .arr .u8 false o2]).trans (wire_Reader_take_seg k most o0 o1 o2 _)
theorem wire_Reader_take_j0_seg (k : Nat) (most : Int) (o0 : Bool) (o1 : Int) (o2 : List UInt8) (r : (Bool × Int × List UInt8 × Bool × Unit)) (C : List Nat → List Nat → St → Option (Bool × Int × List UInt8 × Int × Int × Int × Unit)) : @Eq (Option (Bool × Int × List UInt8 × Int × Int × Int × Unit)) (sresume cx k 93 [.ptr 0 0, .int .u64 most] [.box [.own 1, .bool o0, .int .i64 o1], .arr .u8 false o2] [1, 0, 1] [] (wire_Reader_take_j0_st most o0 o1 o2 r) C) ((bif r.2.2.2.1 then some (r.1, r.2.1, r.2.2.1, 0, 0, 7, ()) else C [1, 1] [] (wire_Reader_take_j1_st most o0 o1 o2 r))) := by kernel_rfl
theorem wire_Reader_take_j0_eq (k : Nat) (most : Int) (o0 : Bool) (o1 : Int) (o2 : List UInt8) (r : (Bool × Int × List UInt8 × Bool × Unit)) : wire_Reader_take_j0 k most o0 o1 o2 r = (bif r.2.2.2.1 then some (r.1, r.2.1, r.2.2.1, 0, 0, 7, ()) else wire_Reader_take_j1 k most o0 o1 o2 r) := (aresume_eq (cx := cx) k 93 [.ptr 0 0, .int .u64 most] [.box [.own 1, .bool o0, .int .i64 o1], .arr .u8 false o2] [1, 0, 1] [] (wire_Reader_take_j0_st most o0 o1 o2 r)).trans (wire_Reader_take_j0_seg k most o0 o1 o2 r _)
theorem wire_Reader_take_j1_seg (k : Nat) (most : Int) (o0 : Bool) (o1 : Int) (o2 : List UInt8) (r : (Bool × Int × List UInt8 × Bool × Unit)) (C : List Nat → List Nat → St → Option (Bool × Int × List UInt8 × Int × Int × Int × Unit)) : @Eq (Option (Bool × Int × List UInt8 × Int × Int × Int × Unit)) (sresume cx k 93 [.ptr 0 0, .int .u64 most] [.box [.own 1, .bool o0, .int .i64 o1], .arr .u8 false o2] [1, 1] [] (wire_Reader_take_j1_st most o0 o1 o2 r) C) (((vint_Get k r.2.2.1 r.2.1).bind fun r1 => (bif (r1.2.2.1 != 0) then none else (bif decide (r1.1 > most) then none else none)))) := by kernel_rfl
theorem wire_Reader_take_j1_eq (k : Nat) (most : Int) (o0 : Bool) (o1 : Int) (o2 : List UInt8) (r : (Bool × Int × List UInt8 × Bool × Unit)) : wire_Reader_take_j1 k most o0 o1 o2 r = ((vint_Get k r.2.2.1 r.2.1).bind fun r1 => (bif (r1.2.2.1 != 0) then none else (bif decide (r1.1 > most) then none else none))) := (aresume_eq (cx := cx) k 93 [.ptr 0 0, .int .u64 most] [.box [.own 1, .bool o0, .int .i64 o1], .arr .u8 false o2] [1, 1] [] (wire_Reader_take_j1_st most o0 o1 o2 r)).trans (wire_Reader_take_j1_seg k most o0 o1 o2 r _)
theorem wire_row_len_seg (k : Nat) (o0 : Bool) (o1 : Int) (o2 : List UInt8) (C : List Nat → List Nat → St → Option (Bool × Int × List UInt8 × Int × Unit)) : @Eq (Option (Bool × Int × List UInt8 × Int × Unit)) (scall cx k 92 [.ptr 0 0] [.box [.own 1, .bool o0, .int .i64 o1], .arr .u8 false o2] C) (some (o0, o1, o2, ((List.length o2 : Nat) : Int), ())) := by kernel_rfl
theorem wire_row_len_eq (k : Nat) (o0 : Bool) (o1 : Int) (o2 : List UInt8) : wire_row_len (k+1) o0 o1 o2 = some (o0, o1, o2, ((List.length o2 : Nat) : Int), ()) := (acall_eq k 92 [.ptr 0 0] [.box [.own 1, .bool o0, .int .i64 o1], .arr .u8 false o2]).trans (wire_row_len_seg k o0 o1 o2 _)
theorem wire_row_none_seg (k : Nat) (o0 : Bool) (o1 : Int) (o2 : List UInt8) (C : List Nat → List Nat → St → Option (Bool × Int × List UInt8 × Bool × Unit)) : @Eq (Option (Bool × Int × List UInt8 × Bool × Unit)) (scall cx k 80 [.ptr 0 0] [.box [.own 1, .bool o0, .int .i64 o1], .arr .u8 false o2] C) (some (o0, o1, o2, (!o0), ())) := by kernel_rfl
theorem wire_row_none_eq (k : Nat) (o0 : Bool) (o1 : Int) (o2 : List UInt8) : wire_row_none (k+1) o0 o1 o2 = some (o0, o1, o2, (!o0), ()) := (acall_eq k 80 [.ptr 0 0] [.box [.own 1, .bool o0, .int .i64 o1], .arr .u8 false o2]).trans (wire_row_none_seg k o0 o1 o2 _)
theorem vint_Size_seg (k : Nat) (n_ : Int) (C : List Nat → List Nat → St → Option (Int × Unit)) : @Eq (Option (Int × Unit)) (scall cx k 82 [.int .u64 n_] [] C) (((vint_groups_uint64 k n_).bind fun r => some (r.1, ()))) := by kernel_rfl
theorem vint_Size_eq (k : Nat) (n_ : Int) : vint_Size (k+1) n_ = ((vint_groups_uint64 k n_).bind fun r => some (r.1, ())) := (acall_eq k 82 [.int .u64 n_] []).trans (vint_Size_seg k n_ _)
theorem wire_Writer_room_seg (k : Nat) (n_ : Int) (o0 : Bool) (o1 : Int) (o2 : List UInt8) (C : List Nat → List Nat → St → Option (Bool × Int × List UInt8 × Bool × Unit)) : @Eq (Option (Bool × Int × List UInt8 × Bool × Unit)) (scall cx k 81 [.ptr 0 0, .int .i64 n_] [.box [.own 1, .bool o0, .int .i64 o1], .arr .u8 false o2] C) (none) := by kernel_rfl
theorem wire_Writer_room_eq (k : Nat) (n_ : Int) (o0 : Bool) (o1 : Int) (o2 : List UInt8) : wire_Writer_room (k+1) n_ o0 o1 o2 = none := (acall_eq k 81 [.ptr 0 0, .int .i64 n_] [.box [.own 1, .bool o0, .int .i64 o1], .arr .u8 false o2]).trans (wire_Writer_room_seg k n_ o0 o1 o2 _)
theorem vint_Put_seg (k : Nat) (b : List UInt8) (n_ : Int) (C : List Nat → List Nat → St → Option (List UInt8 × Unit)) : @Eq (Option (List UInt8 × Unit)) (scall cx k 83 [.sl .u8 false b, .int .u64 n_] [] C) (((vint_groups_uint64 k n_).bind fun r => none)) := by kernel_rfl
theorem vint_Put_eq (k : Nat) (b : List UInt8) (n_ : Int) : vint_Put (k+1) b n_ = ((vint_groups_uint64 k n_).bind fun r => none) := (acall_eq k 83 [.sl .u8 false b, .int .u64 n_] []).trans (vint_Put_seg k b n_ _)
theorem vint_Get_seg (k : Nat) (b : List UInt8) (at_ : Int) (C : List Nat → List Nat → St → Option (Int × Int × Int × Unit)) : @Eq (Option (Int × Int × Int × Unit)) (scall cx k 118 [.sl .u8 false b, .int .i64 at_] [] C) (none) := by kernel_rfl
theorem vint_Get_eq (k : Nat) (b : List UInt8) (at_ : Int) : vint_Get (k+1) b at_ = none := (acall_eq k 118 [.sl .u8 false b, .int .i64 at_] []).trans (vint_Get_seg k b at_ _)
theorem vint_groups_uint64_seg (k : Nat) (n_ : Int) (C : List Nat → List Nat → St → Option (Int × Unit)) : @Eq (Option (Int × Unit)) (scall cx k 112 [.int .u64 n_] [] C) (C [1, 1, 0, 1, 0] [k] (vint_groups_uint64_l0_st n_ (Int.fdiv n_ (2 ^ (min (Int.toNat 7) (IntKind.u64).bits))) 1)) := by kernel_rfl
theorem vint_groups_uint64_eq (k : Nat) (n_ : Int) : vint_groups_uint64 (k+1) n_ = vint_groups_uint64_l0 k k n_ (Int.fdiv n_ (2 ^ (min (Int.toNat 7) (IntKind.u64).bits))) 1 := (acall_eq k 112 [.int .u64 n_] []).trans (vint_groups_uint64_seg k n_ _)
theorem vint_groups_uint64_l0_seg (k : Nat) (n : Nat) (n_ : Int) (n_1 : Int) (k_ : Int) (C : List Nat → List Nat → St → Option (Int × Unit)) : @Eq (Option (Int × Unit)) (sresume cx k 112 [.int .u64 n_] [] [1, 1, 0, 1, 0] [n+1] (vint_groups_uint64_l0_st n_ n_1 k_) C) ((bif (n_1 != 0) then C [1, 1, 0, 1, 0] [n] (vint_groups_uint64_l0_st n_ (Int.fdiv n_1 (2 ^ (min (Int.toNat 7) (IntKind.u64).bits))) (IntKind.i64.wrap (k_ + 1))) else some (k_, ()))) := by kernel_rfl
theorem vint_groups_uint64_l0_eq (k : Nat) (n : Nat) (n_ : Int) (n_1 : Int) (k_ : Int) : vint_groups_uint64_l0 k (n+1) n_ n_1 k_ = (bif (n_1 != 0) then vint_groups_uint64_l0 k n n_ (Int.fdiv n_1 (2 ^ (min (Int.toNat 7) (IntKind.u64).bits))) (IntKind.i64.wrap (k_ + 1)) else some (k_, ())) := (aresume_eq (cx := cx) k 112 [.int .u64 n_] [] [1, 1, 0, 1, 0] [n+1] (vint_groups_uint64_l0_st n_ n_1 k_)).trans (vint_groups_uint64_l0_seg k n n_ n_1 k_ _)
theorem law02_WireZero_def : @law02_WireZero = fun k b => acall cx k 7 [.sl .u8 false b] [] := rfl
attribute [irreducible] law02_WireZero wire_Reader_Byte wire_Reader_Byte_j0_st wire_Reader_Byte_j0 wire_Reader_Text wire_Writer_Num wire_Writer_Num_j0_st wire_Writer_Num_j0 wire_Writer_Text wire_Writer_Text_j0_st wire_Writer_Text_j0 wire_Writer_Text_j1_st wire_Writer_Text_j1 wire_Writer_Byte wire_Writer_Byte_j0_st wire_Writer_Byte_j0 wire_Writer_Done wire_Writer_Done_j0_st wire_Writer_Done_j0 wire_Reader_At wire_Reader_End wire_Reader_End_j0_st wire_Reader_End_j0 wire_Reader_take wire_Reader_take_j0_st wire_Reader_take_j0 wire_Reader_take_j1_st wire_Reader_take_j1 wire_row_len wire_row_none vint_Size wire_Writer_room vint_Put vint_Get vint_groups_uint64 vint_groups_uint64_l0_st vint_groups_uint64_l0
end Go.Ev.HpWZ
