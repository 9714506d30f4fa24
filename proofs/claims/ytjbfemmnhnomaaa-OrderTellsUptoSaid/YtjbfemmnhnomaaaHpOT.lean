import Derived.Test.YtjbfemmnhnomaaaProg
import Derived.Test.YtjbfemmnhnomaaaHpEwG
import Derived.Test.YtjbfemmnhnomaaaHpEwR
import Derived.KernelRfl
set_option maxRecDepth 20000
set_option linter.unusedVariables false
namespace Go.Ev.HpOT
def kinds : List Kind := [.other,
  .fn,
  .int .i64,
  .int .i64,
  .bool,
  .int .u8,
  .int .u8,
  .st [(0, 2), (1, 3), (2, 4), (3, 6)] 4 [none, none, none, none] [(.int .i64 0), (.int .i64 0), (.bool false), (.int .u8 0)] true,
  .st [(0, 2), (1, 3), (2, 4), (3, 6)] 4 [none, none, none, none] [(.int .i64 0), (.int .i64 0), (.bool false), (.int .u8 0)] true,
  .str,
  .str,
  .str,
  .int .u64,
  .other,
  .other,
  .ptr 153,
  .ptr 156,
  .ptr 165,
  .st [(0, 17)] 1 [none] [.nilp] false,
  .st [(0, 17)] 1 [none] [.nilp] false,
  .other,
  .int .i32,
  .sl .pat 24 6 80,
  .st [(0, 3), (1, 9), (2, 9), (3, 3), (4, 3), (5, 22)] 6 [none, none, none, none, none, (some .pat)] [(.int .i64 0), (.str []), (.str []), (.int .i64 0), (.int .i64 0), .nils] false,
  .st [(0, 3), (1, 9), (2, 9), (3, 3), (4, 3), (5, 22)] 6 [none, none, none, none, none, (some .pat)] [(.int .i64 0), (.str []), (.str []), (.int .i64 0), (.int .i64 0), .nils] false,
  .sl .exp 43 7 96,
  .sl .itm 67 4 56,
  .st [(0, 24), (6, 25), (7, 9), (8, 3), (9, 2), (10, 26)] 11 [none, none, none, none, none, (some .pat), (some .exp), none, none, none, (some .itm)] [(.int .i64 0), (.str []), (.str []), (.int .i64 0), (.int .i64 0), .nils, .nils, (.str []), (.int .i64 0), (.int .i64 0), .nils] false,
  .st [(0, 24), (6, 25), (7, 9), (8, 3), (9, 2), (10, 26)] 11 [none, none, none, none, none, (some .pat), (some .exp), none, none, none, (some .itm)] [(.int .i64 0), (.str []), (.str []), (.int .i64 0), (.int .i64 0), .nils, .nils, (.str []), (.int .i64 0), (.int .i64 0), .nils] false,
  .sl .str 9 1 16,
  .fn,
  .fn,
  .fn,
  .fn,
  .fn,
  .fn,
  .fn,
  .fn,
  .fn,
  .fn,
  .st [(0, 3), (1, 2), (2, 9)] 3 [none, none, none] [(.int .i64 0), (.int .i64 0), (.str [])] true,
  .st [(0, 3), (1, 2), (2, 9)] 3 [none, none, none] [(.int .i64 0), (.int .i64 0), (.str [])] true,
  .st [(0, 3), (1, 41), (4, 9), (5, 9), (6, 25)] 7 [none, none, none, none, none, none, (some .exp)] [(.int .i64 0), (.int .i64 0), (.int .i64 0), (.str []), (.str []), (.str []), .nils] false,
  .st [(0, 3), (1, 41), (4, 9), (5, 9), (6, 25)] 7 [none, none, none, none, none, none, (some .exp)] [(.int .i64 0), (.int .i64 0), (.int .i64 0), (.str []), (.str []), (.str []), .nils] false,
  .fn,
  .fn,
  .fn,
  .fn,
  .fn,
  .fn,
  .fn,
  .fn,
  .fn,
  .fn,
  .fn,
  .fn,
  .fn,
  .fn,
  .int .i64,
  .fn,
  .fn,
  .fn,
  .fn,
  .fn,
  .fn,
  .fn,
  .st [(0, 9), (1, 3), (2, 9), (3, 9)] 4 [none, none, none, none] [(.str []), (.int .i64 0), (.str []), (.str [])] true,
  .st [(0, 9), (1, 3), (2, 9), (3, 9)] 4 [none, none, none, none] [(.str []), (.int .i64 0), (.str []), (.str [])] true,
  .fn,
  .fn,
  .fn,
  .fn,
  .sl (.int .i64) 3 1 8,
  .fn,
  .fn,
  .fn,
  .fn,
  .fn,
  .fn,
  .fn,
  .fn,
  .fn,
  .fn,
  .fn,
  .fn,
  .fn,
  .fn,
  .other,
  .fn,
  .fn,
  .fn,
  .st [(0, 28)] 11 [none, none, none, none, none, (some .pat), (some .exp), none, none, none, (some .itm)] [(.int .i64 0), (.str []), (.str []), (.int .i64 0), (.int .i64 0), .nils, .nils, (.str []), (.int .i64 0), (.int .i64 0), .nils] false,
  .st [(0, 28)] 11 [none, none, none, none, none, (some .pat), (some .exp), none, none, none, (some .itm)] [(.int .i64 0), (.str []), (.str []), (.int .i64 0), (.int .i64 0), .nils, .nils, (.str []), (.int .i64 0), (.int .i64 0), .nils] false,
  .fn,
  .fn,
  .fn,
  .fn,
  .fn,
  .fn,
  .fn,
  .fn,
  .fn,
  .int .u64,
  .fn,
  .fn,
  .fn,
  .fn,
  .fn,
  .st [(0, 24), (6, 3)] 7 [none, none, none, none, none, (some .pat), none] [(.int .i64 0), (.str []), (.str []), (.int .i64 0), (.int .i64 0), .nils, (.int .i64 0)] false,
  .st [(0, 24), (6, 3)] 7 [none, none, none, none, none, (some .pat), none] [(.int .i64 0), (.str []), (.str []), (.int .i64 0), (.int .i64 0), .nils, (.int .i64 0)] false,
  .fn,
  .fn,
  .mp .str .bool 9 4,
  .fn,
  .fn,
  .fn,
  .fn,
  .fn,
  .fn,
  .fn,
  .fn,
  .int .i64,
  .other,
  .fn,
  .fn,
  .fn,
  .fn,
  .other,
  .fn,
  .fn,
  .int .u32,
  .fn,
  .int .u64,
  .fn,
  .fn,
  .fn,
  .fn,
  .fn,
  .fn,
  .int .u64,
  .fn,
  .fn,
  .fn,
  .ptr 3,
  .fn,
  .fn,
  .fn,
  .fn,
  .ptr 139,
  .other,
  .fn,
  .fn,
  .st [(0, 17), (1, 17), (2, 17), (3, 9)] 4 [none, none, none, none] [.nilp, .nilp, .nilp, (.str [])] false,
  .st [(0, 17), (1, 17), (2, 17), (3, 9)] 4 [none, none, none, none] [.nilp, .nilp, .nilp, (.str [])] false,
  .other,
  .other,
  .other,
  .fn,
  .int .u8,
  .int .u8,
  .fn,
  .ptr 5,
  .int .i32,
  .int .i32,
  .st [(0, 12), (1, 12), (2, 130), (3, 158), (4, 5), (5, 5), (6, 159), (7, 160), (8, 161), (9, 162), (10, 163)] 11 [none, none, none, none, none, none, none, none, none, none, none] [(.int .u64 0), (.int .u64 0), (.int .u32 0), (.int .u8 0), (.int .u8 0), (.int .u8 0), (.int .u8 0), .nilf, .nilp, (.int .i32 0), (.int .i32 0)] false,
  .st [(0, 12), (1, 12), (2, 130), (3, 158), (4, 5), (5, 5), (6, 159), (7, 160), (8, 161), (9, 162), (10, 163)] 11 [none, none, none, none, none, none, none, none, none, none, none] [(.int .u64 0), (.int .u64 0), (.int .u32 0), (.int .u8 0), (.int .u8 0), (.int .u8 0), (.int .u8 0), .nilf, .nilp, (.int .i32 0), (.int .i32 0)] false,
  .other]
def res : List VSh := [.tup [],
  .tup [],
  .tup [],
  .one (.v .bool),
  .one (.v .bool),
  .one (.v .bool),
  .one (.v .bool),
  .one (.v .bool),
  .one (.v .bool),
  .one (.v .bool),
  .one (.v .bool),
  .one (.v .bool),
  .one (.v .bool),
  .one (.v .bool),
  .one (.v .bool),
  .one (.v .bool),
  .one (.v (.dat .qry)),
  .one (.v (.dat .qry)),
  .one (.v .bool),
  .one (.v .bool),
  .one (.v (.int .i64)),
  .one (.v (.int .i64)),
  .one (.v (.int .i64)),
  .one (.v (.int .i64)),
  .one (.v .bool),
  .one (.v (.dat .pat)),
  .one (.v .bool),
  .one (.v .bool),
  .one (.v .bool),
  .one (.v (.dat .exp)),
  .one (.v (.dat .exp)),
  .one (.v (.dat .exp)),
  .one (.v (.dat .exp)),
  .one (.v (.int .i64)),
  .one (.v .bool),
  .one (.v (.sl .pat)),
  .one (.v (.sl .pat)),
  .one (.v (.sl .pat)),
  .one (.v (.sl .pat)),
  .one (.v (.sl .exp)),
  .one (.v (.sl .exp)),
  .one (.v .bool),
  .one (.v (.sl .str)),
  .one (.v (.int .i64)),
  .one (.v (.int .i64)),
  .one (.v (.int .i64)),
  .one (.v (.int .i64)),
  .one (.v (.int .i64)),
  .one (.v (.int .i64)),
  .one (.v (.int .i64)),
  .one (.v .bool),
  .one (.v (.sl .str)),
  .one (.v (.sl .str)),
  .one (.v .bool),
  .one (.v (.int .i64)),
  .one (.v (.int .i64)),
  .one (.v (.sl .exp)),
  .one (.v (.dat .pat)),
  .one (.v (.int .i64)),
  .one (.v .str),
  .one (.v (.int .i64)),
  .one (.v (.int .i64)),
  .one (.v (.int .i64)),
  .one (.v (.int .i64)),
  .one (.v (.sl .str)),
  .one (.v (.sl .str)),
  .one (.v .str),
  .one (.v .bool),
  .one (.v (.dat .val)),
  .one (.v (.dat .val)),
  .one (.v (.int .i64)),
  .one (.v (.sl .pat)),
  .one (.v .bool),
  .one (.v .bool),
  .one (.v .bool),
  .one (.v (.sl .exp)),
  .one (.c .undef),
  .tup [],
  .one (.v (.sl .str)),
  .one (.v .bool),
  .one (.v .bool),
  .one (.v (.int .i64)),
  .one (.v (.int .i64)),
  .one (.v (.sl .str)),
  .tup [.v (.sl .str), .v (.sl .str), .v (.sl (.int .i64))],
  .one (.v .bool),
  .one (.v .bool),
  .one (.v (.int .i64)),
  .one (.v (.int .i64)),
  .one (.v (.int .i64)),
  .one (.v (.int .i64)),
  .one (.v (.sl .exp)),
  .one (.v .bool),
  .one (.v (.int .i64)),
  .one (.v (.int .i64)),
  .one (.v (.int .i64)),
  .one (.v (.int .i64)),
  .one (.v (.sl .pat)),
  .one (.v .bool),
  .one (.v (.int .i64)),
  .one (.v (.sl .exp)),
  .tup [],
  .one (.v .bool),
  .tup [],
  .one (.v (.int .i64)),
  .one (.v .bool),
  .one (.v .bool),
  .one (.v .bool),
  .one (.v .bool),
  .one (.v .bool),
  .one (.v .bool),
  .one (.v .bool),
  .one (.c .undef),
  .one (.v .bool),
  .one (.v (.int .i64)),
  .one (.v .bool),
  .one (.v .bool),
  .one (.v .bool),
  .one (.v .bool),
  .one (.v .bool),
  .one (.v .bool),
  .one (.v (.int .i64)),
  .one (.v .bool),
  .tup [],
  .one (.v .bool),
  .tup [],
  .tup [],
  .tup [],
  .tup [],
  .tup [.v (.int .i64), .v (.int .i64)],
  .tup [],
  .one (.v .bool),
  .one (.v .bool),
  .one (.v (.int .i64)),
  .tup [.v (.int .i64), .v .bool],
  .one (.v (.int .i64)),
  .one (.v (.int .i64)),
  .one (.v .bool),
  .one (.v .bool),
  .one (.v (.int .i64)),
  .one (.v .bool),
  .one (.v .bool),
  .tup [],
  .one (.v .bool),
  .one (.v .bool),
  .one (.v (.int .i64)),
  .one (.v .bool),
  .tup [],
  .tup [],
  .tup [],
  .one (.v (.int .u64)),
  .one (.v (.int .u64)),
  .one (.v (.int .i64)),
  .one (.v (.int .i64)),
  .one (.v .bool),
  .one (.v .bool),
  .one (.v .bool),
  .one (.v .bool),
  .tup [],
  .tup [],
  .tup [.v (.int .i64), .v (.int .i64)],
  .one (.v .str),
  .tup [],
  .one (.v .str),
  .tup [],
  .one (.v .str),
  .tup [],
  .one (.v .str),
  .tup [],
  .one (.v .str),
  .tup [],
  .one (.v .str),
  .tup [],
  .one (.v (.int .i64)),
  .one (.v .str),
  .tup [],
  .one (.v .str)]
def rty : Nat → List AVal → List AObj → List FSh
  | 112, _, _ => [⟨[.box [.v (.int .i64), .v .str, .v .str, .v (.int .i64), .v (.int .i64), .v (.sl .pat)]], .one (.c (.clo 142 [0]))⟩]
  | f, _, objs => shapes res f objs
def mask : Nat → List Nat → Option (List Nat)
  | 18, [1, 1, 0, 1, 0] => some [0, 3, 4]
  | 18, [1, 1, 0, 1, 0, 0, 1] => some [0, 3, 4]
  | 20, [1, 1, 0, 1, 0] => some [3, 16, 17, 18]
  | 21, [1, 1, 0, 1, 0] => some [2, 3, 5, 6]
  | 21, [1, 1, 1, 0, 1, 0] => some [2, 3, 7]
  | 21, [1, 1, 1, 0, 1, 0, 0, 1] => some [2, 3, 7]
  | 23, [1, 1, 1, 1, 1, 0, 1, 0] => some [6, 7, 8]
  | 23, [1, 1, 1, 1, 1, 0, 1, 0, 0, 1] => some [6, 7, 8]
  | 55, [1, 1, 0, 1, 0] => some [1, 3, 4]
  | 63, [1, 0, 1, 0] => some [0, 1, 9, 10, 11]
  | 64, [1, 1, 0, 1, 0] => some [3, 10, 11, 12]
  | 65, [1, 1, 0, 1, 0] => some [1, 3, 4]
  | 93, [1, 1, 0, 1, 0] => some [3, 6, 7, 8]
  | _, _ => none
noncomputable def cx : Cx := { prog := Go.Proofs.Try.prog, kinds := kinds, rty := rty, mutp := fun _ _ => false, mask := mask }
noncomputable def law15_OrderTells (k : Nat) (a : Pat) (b : Pat) : Option (Bool × Unit) := acall cx k 4 [.agg (cells .pat a), .agg (cells .pat b)] []
noncomputable def law15_light (k : Nat) (l : List Pat) : Option (Bool × Unit) := acall cx k 18 [.sl .pat false l] []
def law15_light_l0_st (l : List Pat) (n_ : Int) (i : Int) : St := { tmps := [.sl .pat false l, .undef, .undef, .int .i64 n_, .int .i64 i, .undef, .undef, .undef, .undef, .undef, .undef, .undef, .undef, .undef, .undef, .undef, .undef, .undef, .undef, .undef, .undef, .undef, .undef, .undef], objs := [] }
noncomputable def law15_light_l0 (k : Nat) (n : Nat) (l : List Pat) (n_ : Int) (i : Int) : Option (Bool × Unit) := aresume cx k 18 [.sl .pat false l] [] [1, 1, 0, 1, 0] [n] (law15_light_l0_st l n_ i)
def law15_light_j0_st (l : List Pat) (n_ : Int) (i : Int) : St := { tmps := [.sl .pat false l, .undef, .undef, .int .i64 n_, .int .i64 i, .undef, .undef, .undef, .undef, .undef, .undef, .undef, .undef, .undef, .undef, .undef, .undef, .undef, .undef, .undef, .undef, .undef, .undef, .undef], objs := [] }
noncomputable def law15_light_j0 (k : Nat) (r0 : Nat) (l : List Pat) (n_ : Int) (i : Int) : Option (Bool × Unit) := aresume cx k 18 [.sl .pat false l] [] [1, 1, 0, 1, 0, 0, 1] [r0] (law15_light_j0_st l n_ i)
noncomputable def law15_awake (k : Nat) : Option (Bool × Unit) := acall cx k 19 [] []
noncomputable def order_Form (k : Nat) (a : Pat) (b : Pat) : Option (Int × Unit) := acall cx k 20 [.agg (cells .pat a), .agg (cells .pat b)] []
def order_Form_l0_st (a : Pat) (b : Pat) (t18 : Int) : St := { tmps := [.undef, .undef, .undef, .ptr 0 0, .undef, .undef, .undef, .undef, .undef, .undef, .undef, .undef, .undef, .undef, .undef, .undef, .sl .pat false a.l, .int .i64 ((List.length a.l : Nat) : Int), .int .i64 t18, .undef, .undef, .undef, .undef, .undef, .undef, .undef, .undef, .undef, .undef, .undef, .undef, .undef, .undef, .undef], objs := [.box (cells .pat b)] }
noncomputable def order_Form_l0 (k : Nat) (n : Nat) (a : Pat) (b : Pat) (t18 : Int) : Option (Int × Unit) := aresume cx k 20 [.agg (cells .pat a), .agg (cells .pat b)] [] [1, 1, 0, 1, 0] [n] (order_Form_l0_st a b t18)
noncomputable def ref15_Form (k : Nat) (a : Pat) (b : Pat) : Option (Int × Unit) := acall cx k 21 [.agg (cells .pat a), .agg (cells .pat b)] []
def ref15_Form_l0_st (a : Pat) (b : Pat) (r : (Int × Unit)) (r1 : (Int × Unit)) (r2 : (Int × Unit)) (r3 : (Int × Unit)) (r4 : (Int × Unit)) (i : Int) : St := { tmps := [.undef, .undef, .ptr 0 0, .ptr 1 0, .undef, .own 2, .int .i64 i, .undef, .undef, .undef, .undef, .undef, .undef, .undef, .undef, .undef, .undef, .undef, .undef, .undef, .undef, .undef, .undef, .undef, .undef, .undef, .undef, .undef, .undef, .undef, .undef, .undef, .undef, .undef, .undef, .undef, .undef, .undef, .undef, .undef, .undef, .undef, .undef, .undef, .undef, .undef, .undef, .undef, .undef, .undef, .undef, .undef, .undef, .undef, .undef, .undef, .undef, .undef, .undef, .undef, .undef, .undef, .undef, .undef, .undef, .undef, .undef, .undef, .undef, .undef, .undef, .undef, .undef, .undef, .undef, .undef, .undef, .undef, .undef, .undef], objs := [.box (cells .pat a), .box (cells .pat b), .arr (.int .i64) false ([r.1, r1.1, r2.1, r3.1, r4.1] : List Int)] }
noncomputable def ref15_Form_l0 (k : Nat) (n : Nat) (a : Pat) (b : Pat) (r : (Int × Unit)) (r1 : (Int × Unit)) (r2 : (Int × Unit)) (r3 : (Int × Unit)) (r4 : (Int × Unit)) (i : Int) : Option (Int × Unit) := aresume cx k 21 [.agg (cells .pat a), .agg (cells .pat b)] [] [1, 1, 0, 1, 0] [n] (ref15_Form_l0_st a b r r1 r2 r3 r4 i)
def ref15_Form_l1_st (a : Pat) (b : Pat) (i : Int) : St := { tmps := [.undef, .undef, .ptr 0 0, .ptr 1 0, .undef, .undef, .undef, .int .i64 i, .undef, .undef, .undef, .undef, .undef, .undef, .undef, .undef, .undef, .undef, .undef, .undef, .undef, .undef, .undef, .undef, .undef, .undef, .undef, .undef, .undef, .undef, .undef, .undef, .undef, .undef, .undef, .undef, .undef, .undef, .undef, .undef, .undef, .undef, .undef, .undef, .undef, .undef, .undef, .undef, .undef, .undef, .undef, .undef, .undef, .undef, .undef, .undef, .undef, .undef, .undef, .undef, .undef, .undef, .undef, .undef, .undef, .undef, .undef, .undef, .undef, .undef, .undef, .undef, .undef, .undef, .undef, .undef, .undef, .undef, .undef, .undef], objs := [.box (cells .pat a), .box (cells .pat b)] }
noncomputable def ref15_Form_l1 (k : Nat) (n : Nat) (a : Pat) (b : Pat) (i : Int) : Option (Int × Unit) := aresume cx k 21 [.agg (cells .pat a), .agg (cells .pat b)] [] [1, 1, 1, 0, 1, 0] [n] (ref15_Form_l1_st a b i)
def ref15_Form_j0_st (a : Pat) (b : Pat) (i : Int) : St := { tmps := [.undef, .undef, .ptr 0 0, .ptr 1 0, .undef, .undef, .undef, .int .i64 i, .undef, .undef, .undef, .undef, .undef, .undef, .undef, .undef, .undef, .undef, .undef, .undef, .undef, .undef, .undef, .undef, .undef, .undef, .undef, .undef, .undef, .undef, .undef, .undef, .undef, .undef, .undef, .undef, .undef, .undef, .undef, .undef, .undef, .undef, .undef, .undef, .undef, .undef, .undef, .undef, .undef, .undef, .undef, .undef, .undef, .undef, .undef, .undef, .undef, .undef, .undef, .undef, .undef, .undef, .undef, .undef, .undef, .undef, .undef, .undef, .undef, .undef, .undef, .undef, .undef, .undef, .undef, .undef, .undef, .undef, .undef, .undef], objs := [.box (cells .pat a), .box (cells .pat b)] }
noncomputable def ref15_Form_j0 (k : Nat) (r0 : Nat) (a : Pat) (b : Pat) (i : Int) : Option (Int × Unit) := aresume cx k 21 [.agg (cells .pat a), .agg (cells .pat b)] [] [1, 1, 1, 0, 1, 0, 0, 1] [r0] (ref15_Form_j0_st a b i)
noncomputable def order_Whole (k : Nat) (a : Pat) (b : Pat) : Option (Int × Unit) := acall cx k 22 [.agg (cells .pat a), .agg (cells .pat b)] []
noncomputable def ref15_Whole (k : Nat) (a : Pat) (b : Pat) : Option (Int × Unit) := acall cx k 23 [.agg (cells .pat a), .agg (cells .pat b)] []
def ref15_Whole_l0_st (a : Pat) (b : Pat) (r1 : (List Bytes × Unit)) (r2 : (List Bytes × Unit)) (i : Int) : St := { tmps := [.undef, .undef, .undef, .undef, .undef, .undef, .sl .str false r1.1, .sl .str false r2.1, .int .i64 i, .undef, .undef, .undef, .undef, .undef, .undef, .undef, .undef, .undef, .undef, .undef, .undef, .undef, .undef, .undef, .undef, .undef, .undef, .undef, .undef, .undef, .undef, .undef, .undef, .undef, .undef, .undef, .undef, .undef, .undef, .undef, .undef, .undef, .undef, .undef], objs := [] }
noncomputable def ref15_Whole_l0 (k : Nat) (n : Nat) (a : Pat) (b : Pat) (r1 : (List Bytes × Unit)) (r2 : (List Bytes × Unit)) (i : Int) : Option (Int × Unit) := aresume cx k 23 [.agg (cells .pat a), .agg (cells .pat b)] [] [1, 1, 1, 1, 1, 0, 1, 0] [n] (ref15_Whole_l0_st a b r1 r2 i)
def ref15_Whole_j0_st (a : Pat) (b : Pat) (r1 : (List Bytes × Unit)) (r2 : (List Bytes × Unit)) (i : Int) : St := { tmps := [.undef, .undef, .undef, .undef, .undef, .undef, .sl .str false r1.1, .sl .str false r2.1, .int .i64 i, .undef, .undef, .undef, .undef, .undef, .undef, .undef, .undef, .undef, .undef, .undef, .undef, .undef, .undef, .undef, .undef, .undef, .undef, .undef, .undef, .undef, .undef, .undef, .undef, .undef, .undef, .undef, .undef, .undef, .undef, .undef, .undef, .undef, .undef, .undef], objs := [] }
noncomputable def ref15_Whole_j0 (k : Nat) (r0 : Nat) (a : Pat) (b : Pat) (r1 : (List Bytes × Unit)) (r2 : (List Bytes × Unit)) (i : Int) : Option (Int × Unit) := aresume cx k 23 [.agg (cells .pat a), .agg (cells .pat b)] [] [1, 1, 1, 1, 1, 0, 1, 0, 0, 1] [r0] (ref15_Whole_j0_st a b r1 r2 i)
noncomputable def ref12_Size (k : Nat) (p : Pat) : Option (Int × Unit) := acall cx k 55 [.agg (cells .pat p)] []
def ref12_Size_l0_st (p : Pat) (n_ : Int) (i : Int) : St := { tmps := [.undef, .ptr 0 0, .undef, .int .i64 n_, .int .i64 i, .undef, .undef, .undef, .undef, .undef, .undef, .undef, .undef, .undef, .undef, .undef, .undef, .undef, .undef, .undef, .undef], objs := [.box (cells .pat p)] }
noncomputable def ref12_Size_l0 (k : Nat) (n : Nat) (p : Pat) (n_ : Int) (i : Int) : Option (Int × Unit) := aresume cx k 55 [.agg (cells .pat p)] [] [1, 1, 0, 1, 0] [n] (ref12_Size_l0_st p n_ i)
noncomputable def order_node (k : Nat) (a : Pat) (b : Pat) : Option (Int × Unit) := acall cx k 60 [.agg (cells .pat a), .agg (cells .pat b)] []
noncomputable def ref09_Number (k : Nat) (a : Int) (b : Int) : Option (Int × Unit) := acall cx k 61 [.int .i64 a, .int .i64 b] []
noncomputable def ref15_text (k : Nat) (a : Bytes) (b : Bytes) : Option (Int × Unit) := acall cx k 62 [.str a, .str b] []
noncomputable def order_vars (k : Nat) (p : Pat) : Option (List Bytes × Unit) := acall cx k 64 [.agg (cells .pat p)] []
def order_vars_l0_st (p : Pat) (t12 : Int) (out : List Bytes) : St := { tmps := [.undef, .undef, .undef, .own 0, .undef, .undef, .undef, .undef, .undef, .undef, .sl .pat false p.l, .int .i64 ((List.length p.l : Nat) : Int), .int .i64 t12, .undef, .undef, .undef, .undef, .undef, .undef, .undef, .undef, .undef], objs := [.arr .str false out] }
noncomputable def order_vars_l0 (k : Nat) (n : Nat) (p : Pat) (t12 : Int) (out : List Bytes) : Option (List Bytes × Unit) := aresume cx k 64 [.agg (cells .pat p)] [] [1, 1, 0, 1, 0] [n] (order_vars_l0_st p t12 out)
noncomputable def slices_Compare_string (k : Nat) (s1 : List Bytes) (s2 : List Bytes) : Option (Int × Unit) := acall cx k 63 [.sl .str false s1, .sl .str false s2] []
def slices_Compare_string_l0_st (s1 : List Bytes) (s2 : List Bytes) (t11 : Int) : St := { tmps := [.sl .str false s1, .sl .str false s2, .undef, .undef, .undef, .undef, .undef, .undef, .undef, .sl .str false s1, .int .i64 ((List.length s1 : Nat) : Int), .int .i64 t11, .undef, .undef, .undef, .undef, .undef, .undef, .undef, .undef, .undef, .undef, .undef, .undef, .undef, .undef, .undef, .undef, .undef, .undef, .undef, .undef, .undef, .undef, .undef, .undef], objs := [] }
noncomputable def slices_Compare_string_l0 (k : Nat) (n : Nat) (s1 : List Bytes) (s2 : List Bytes) (t11 : Int) : Option (Int × Unit) := aresume cx k 63 [.sl .str false s1, .sl .str false s2] [] [1, 0, 1, 0] [n] (slices_Compare_string_l0_st s1 s2 t11)
noncomputable def ref15_vars (k : Nat) (p : Pat) : Option (List Bytes × Unit) := acall cx k 65 [.agg (cells .pat p)] []
def ref15_vars_l0_st (p : Pat) (i : Int) (out : List Bytes) : St := { tmps := [.undef, .ptr 0 0, .undef, .own 1, .int .i64 i, .undef, .undef, .undef, .undef, .undef, .undef, .undef, .undef, .undef, .undef, .undef, .undef, .undef, .undef, .undef, .undef, .undef, .undef, .undef], objs := [.box (cells .pat p), .arr .str false out] }
noncomputable def ref15_vars_l0 (k : Nat) (n : Nat) (p : Pat) (i : Int) (out : List Bytes) : Option (List Bytes × Unit) := aresume cx k 65 [.agg (cells .pat p)] [] [1, 1, 0, 1, 0] [n] (ref15_vars_l0_st p i out)
noncomputable def cmp_Compare_int (k : Nat) (x : Int) (y : Int) : Option (Int × Unit) := acall cx k 94 [.int .i64 x, .int .i64 y] []
noncomputable def cmp_Compare_string (k : Nat) (x : Bytes) (y : Bytes) : Option (Int × Unit) := acall cx k 95 [.str x, .str y] []
noncomputable def cmp_Or_int (k : Nat) (vals : List Int) : Option (Int × Unit) := acall cx k 93 [.sl (.int .i64) false vals] []
def cmp_Or_int_l0_st (vals : List Int) (t8 : Int) : St := { tmps := [.undef, .undef, .undef, .int .i64 0, .undef, .undef, .sl (.int .i64) false vals, .int .i64 ((List.length vals : Nat) : Int), .int .i64 t8, .undef, .undef, .undef, .undef, .undef, .undef, .undef, .undef, .undef], objs := [] }
noncomputable def cmp_Or_int_l0 (k : Nat) (n : Nat) (vals : List Int) (t8 : Int) : Option (Int × Unit) := aresume cx k 93 [.sl (.int .i64) false vals] [] [1, 1, 0, 1, 0] [n] (cmp_Or_int_l0_st vals t8)
noncomputable def cmp_isNaN_int (k : Nat) (x : Int) : Option (Bool × Unit) := acall cx k 119 [.int .i64 x] []
noncomputable def cmp_isNaN_string (k : Nat) (x : Bytes) : Option (Bool × Unit) := acall cx k 120 [.str x] []
theorem law15_OrderTells_seg (k : Nat) (a : Pat) (b : Pat) (C : List Nat → List Nat → St → Option (Bool × Unit)) : @Eq (Option (Bool × Unit)) (scall cx k 4 [.agg (cells .pat a), .agg (cells .pat b)] [] C) (((law15_light k ([(⟨a.k, a.var, a.type, a.lo, a.hi, a.l⟩ : Pat), (⟨b.k, b.var, b.type, b.lo, b.hi, b.l⟩ : Pat)] : List Pat)).bind fun r => (bif (!r.1) then ((law15_awake k).bind fun r1 => some (r1.1, ())) else ((order_Form k a b).bind fun r1 => ((ref15_Form k a b).bind fun r2 => (bif ((r1.1 == r2.1) == true) then ((order_Whole k a b).bind fun r3 => ((ref15_Whole k a b).bind fun r4 => (bif ((r3.1 == r4.1) == true) then ((law15_awake k).bind fun r5 => some (r5.1, ())) else some (false, ())))) else some (false, ()))))))) := by kernel_rfl
theorem law15_OrderTells_eq (k : Nat) (a : Pat) (b : Pat) : law15_OrderTells (k+1) a b = ((law15_light k ([(⟨a.k, a.var, a.type, a.lo, a.hi, a.l⟩ : Pat), (⟨b.k, b.var, b.type, b.lo, b.hi, b.l⟩ : Pat)] : List Pat)).bind fun r => (bif (!r.1) then ((law15_awake k).bind fun r1 => some (r1.1, ())) else ((order_Form k a b).bind fun r1 => ((ref15_Form k a b).bind fun r2 => (bif ((r1.1 == r2.1) == true) then ((order_Whole k a b).bind fun r3 => ((ref15_Whole k a b).bind fun r4 => (bif ((r3.1 == r4.1) == true) then ((law15_awake k).bind fun r5 => some (r5.1, ())) else some (false, ())))) else some (false, ())))))) := (acall_eq k 4 [.agg (cells .pat a), .agg (cells .pat b)] []).trans (law15_OrderTells_seg k a b _)
theorem law15_light_seg (k : Nat) (l : List Pat) (C : List Nat → List Nat → St → Option (Bool × Unit)) : @Eq (Option (Bool × Unit)) (scall cx k 18 [.sl .pat false l] [] C) (C [1, 1, 0, 1, 0] [k] (law15_light_l0_st l 0 0)) := by kernel_rfl
theorem law15_light_eq (k : Nat) (l : List Pat) : law15_light (k+1) l = law15_light_l0 k k l 0 0 := (acall_eq k 18 [.sl .pat false l] []).trans (law15_light_seg k l _)
theorem law15_light_l0_seg (k : Nat) (n : Nat) (l : List Pat) (n_ : Int) (i : Int) (C : List Nat → List Nat → St → Option (Bool × Unit)) : @Eq (Option (Bool × Unit)) (sresume cx k 18 [.sl .pat false l] [] [1, 1, 0, 1, 0] [n+1] (law15_light_l0_st l n_ i) C) ((bif (decide (i < ((List.length l : Nat) : Int)) == true) then (bif decide (n_ ≤ 600) then C [1, 1, 0, 1, 0, 0, 1] [n] (law15_light_j0_st l n_ i) else some (decide (n_ ≤ 600), ())) else some (decide (n_ ≤ 600), ()))) := by kernel_rfl
theorem law15_light_l0_eq (k : Nat) (n : Nat) (l : List Pat) (n_ : Int) (i : Int) : law15_light_l0 k (n+1) l n_ i = (bif (decide (i < ((List.length l : Nat) : Int)) == true) then (bif decide (n_ ≤ 600) then law15_light_j0 k n l n_ i else some (decide (n_ ≤ 600), ())) else some (decide (n_ ≤ 600), ())) := (aresume_eq (cx := cx) k 18 [.sl .pat false l] [] [1, 1, 0, 1, 0] [n+1] (law15_light_l0_st l n_ i)).trans (law15_light_l0_seg k n l n_ i _)
theorem law15_light_j0_seg (k : Nat) (r0 : Nat) (l : List Pat) (n_ : Int) (i : Int) (C : List Nat → List Nat → St → Option (Bool × Unit)) : @Eq (Option (Bool × Unit)) (sresume cx k 18 [.sl .pat false l] [] [1, 1, 0, 1, 0, 0, 1] [r0] (law15_light_j0_st l n_ i) C) (((idx l i).bind fun d => ((ref12_Size k d).bind fun r => C [1, 1, 0, 1, 0] [r0] (law15_light_l0_st l (IntKind.i64.wrap (n_ + r.1)) (IntKind.i64.wrap (i + 1)))))) := by kernel_rfl
theorem law15_light_j0_eq (k : Nat) (r0 : Nat) (l : List Pat) (n_ : Int) (i : Int) : law15_light_j0 k r0 l n_ i = ((idx l i).bind fun d => ((ref12_Size k d).bind fun r => law15_light_l0 k r0 l (IntKind.i64.wrap (n_ + r.1)) (IntKind.i64.wrap (i + 1)))) := (aresume_eq (cx := cx) k 18 [.sl .pat false l] [] [1, 1, 0, 1, 0, 0, 1] [r0] (law15_light_j0_st l n_ i)).trans (law15_light_j0_seg k r0 l n_ i _)
theorem order_Form_seg (k : Nat) (a : Pat) (b : Pat) (C : List Nat → List Nat → St → Option (Int × Unit)) : @Eq (Option (Int × Unit)) (scall cx k 20 [.agg (cells .pat a), .agg (cells .pat b)] [] C) (((order_node k a b).bind fun r => (bif (r.1 != 0) then some (r.1, ()) else C [1, 1, 0, 1, 0] [k] (order_Form_l0_st a b 0)))) := by kernel_rfl
theorem order_Form_eq (k : Nat) (a : Pat) (b : Pat) : order_Form (k+1) a b = ((order_node k a b).bind fun r => (bif (r.1 != 0) then some (r.1, ()) else order_Form_l0 k k a b 0)) := (acall_eq k 20 [.agg (cells .pat a), .agg (cells .pat b)] []).trans (order_Form_seg k a b _)
theorem order_Form_l0_seg (k : Nat) (n : Nat) (a : Pat) (b : Pat) (t18 : Int) (C : List Nat → List Nat → St → Option (Int × Unit)) : @Eq (Option (Int × Unit)) (sresume cx k 20 [.agg (cells .pat a), .agg (cells .pat b)] [] [1, 1, 0, 1, 0] [n+1] (order_Form_l0_st a b t18) C) ((bif decide (t18 < ((List.length a.l : Nat) : Int)) then ((idx a.l t18).bind fun d => ((idx b.l t18).bind fun d1 => ((order_Form k d d1).bind fun r => (bif (r.1 != 0) then some (r.1, ()) else C [1, 1, 0, 1, 0] [n] (order_Form_l0_st a b (IntKind.i64.wrap (t18 + 1))))))) else some (0, ()))) := by kernel_rfl
theorem order_Form_l0_eq (k : Nat) (n : Nat) (a : Pat) (b : Pat) (t18 : Int) : order_Form_l0 k (n+1) a b t18 = (bif decide (t18 < ((List.length a.l : Nat) : Int)) then ((idx a.l t18).bind fun d => ((idx b.l t18).bind fun d1 => ((order_Form k d d1).bind fun r => (bif (r.1 != 0) then some (r.1, ()) else order_Form_l0 k n a b (IntKind.i64.wrap (t18 + 1)))))) else some (0, ())) := (aresume_eq (cx := cx) k 20 [.agg (cells .pat a), .agg (cells .pat b)] [] [1, 1, 0, 1, 0] [n+1] (order_Form_l0_st a b t18)).trans (order_Form_l0_seg k n a b t18 _)
theorem ref15_Form_seg (k : Nat) (a : Pat) (b : Pat) (C : List Nat → List Nat → St → Option (Int × Unit)) : @Eq (Option (Int × Unit)) (scall cx k 21 [.agg (cells .pat a), .agg (cells .pat b)] [] C) (((ref09_Number k a.k b.k).bind fun r => ((ref15_text k a.type b.type).bind fun r1 => ((ref09_Number k a.lo b.lo).bind fun r2 => ((ref09_Number k a.hi b.hi).bind fun r3 => ((ref09_Number k ((List.length a.l : Nat) : Int) ((List.length b.l : Nat) : Int)).bind fun r4 => C [1, 1, 0, 1, 0] [k] (ref15_Form_l0_st a b r r1 r2 r3 r4 0))))))) := by kernel_rfl
theorem ref15_Form_eq (k : Nat) (a : Pat) (b : Pat) : ref15_Form (k+1) a b = ((ref09_Number k a.k b.k).bind fun r => ((ref15_text k a.type b.type).bind fun r1 => ((ref09_Number k a.lo b.lo).bind fun r2 => ((ref09_Number k a.hi b.hi).bind fun r3 => ((ref09_Number k ((List.length a.l : Nat) : Int) ((List.length b.l : Nat) : Int)).bind fun r4 => ref15_Form_l0 k k a b r r1 r2 r3 r4 0))))) := (acall_eq k 21 [.agg (cells .pat a), .agg (cells .pat b)] []).trans (ref15_Form_seg k a b _)
theorem ref15_Form_l0_seg (k : Nat) (n : Nat) (a : Pat) (b : Pat) (r : (Int × Unit)) (r1 : (Int × Unit)) (r2 : (Int × Unit)) (r3 : (Int × Unit)) (r4 : (Int × Unit)) (i : Int) (C : List Nat → List Nat → St → Option (Int × Unit)) : @Eq (Option (Int × Unit)) (sresume cx k 21 [.agg (cells .pat a), .agg (cells .pat b)] [] [1, 1, 0, 1, 0] [n+1] (ref15_Form_l0_st a b r r1 r2 r3 r4 i) C) ((bif decide (i < 5) then ((idx ([r.1, r1.1, r2.1, r3.1, r4.1] : List Int) i).bind fun d => ((([r.1, r1.1, r2.1, r3.1, r4.1] : List Int)[(Int.toNat i)]?).bind fun d1 => (bif (d1 != 0) then ((idx ([r.1, r1.1, r2.1, r3.1, r4.1] : List Int) i).bind fun d2 => ((([r.1, r1.1, r2.1, r3.1, r4.1] : List Int)[(Int.toNat i)]?).bind fun d3 => some (d3, ()))) else C [1, 1, 0, 1, 0] [n] (ref15_Form_l0_st a b r r1 r2 r3 r4 (IntKind.i64.wrap (i + 1)))))) else C [1, 1, 1, 0, 1, 0] [k] (ref15_Form_l1_st a b 0))) := by kernel_rfl
theorem ref15_Form_l0_eq (k : Nat) (n : Nat) (a : Pat) (b : Pat) (r : (Int × Unit)) (r1 : (Int × Unit)) (r2 : (Int × Unit)) (r3 : (Int × Unit)) (r4 : (Int × Unit)) (i : Int) : ref15_Form_l0 k (n+1) a b r r1 r2 r3 r4 i = (bif decide (i < 5) then ((idx ([r.1, r1.1, r2.1, r3.1, r4.1] : List Int) i).bind fun d => ((([r.1, r1.1, r2.1, r3.1, r4.1] : List Int)[(Int.toNat i)]?).bind fun d1 => (bif (d1 != 0) then ((idx ([r.1, r1.1, r2.1, r3.1, r4.1] : List Int) i).bind fun d2 => ((([r.1, r1.1, r2.1, r3.1, r4.1] : List Int)[(Int.toNat i)]?).bind fun d3 => some (d3, ()))) else ref15_Form_l0 k n a b r r1 r2 r3 r4 (IntKind.i64.wrap (i + 1))))) else ref15_Form_l1 k k a b 0) := (aresume_eq (cx := cx) k 21 [.agg (cells .pat a), .agg (cells .pat b)] [] [1, 1, 0, 1, 0] [n+1] (ref15_Form_l0_st a b r r1 r2 r3 r4 i)).trans (ref15_Form_l0_seg k n a b r r1 r2 r3 r4 i _)
theorem ref15_Form_l1_seg (k : Nat) (n : Nat) (a : Pat) (b : Pat) (i : Int) (C : List Nat → List Nat → St → Option (Int × Unit)) : @Eq (Option (Int × Unit)) (sresume cx k 21 [.agg (cells .pat a), .agg (cells .pat b)] [] [1, 1, 1, 0, 1, 0] [n+1] (ref15_Form_l1_st a b i) C) ((bif (decide (i < ((List.length a.l : Nat) : Int)) == true) then (bif decide (i < ((List.length b.l : Nat) : Int)) then C [1, 1, 1, 0, 1, 0, 0, 1] [n] (ref15_Form_j0_st a b i) else some (0, ())) else some (0, ()))) := by kernel_rfl
theorem ref15_Form_l1_eq (k : Nat) (n : Nat) (a : Pat) (b : Pat) (i : Int) : ref15_Form_l1 k (n+1) a b i = (bif (decide (i < ((List.length a.l : Nat) : Int)) == true) then (bif decide (i < ((List.length b.l : Nat) : Int)) then ref15_Form_j0 k n a b i else some (0, ())) else some (0, ())) := (aresume_eq (cx := cx) k 21 [.agg (cells .pat a), .agg (cells .pat b)] [] [1, 1, 1, 0, 1, 0] [n+1] (ref15_Form_l1_st a b i)).trans (ref15_Form_l1_seg k n a b i _)
theorem ref15_Form_j0_seg (k : Nat) (r0 : Nat) (a : Pat) (b : Pat) (i : Int) (C : List Nat → List Nat → St → Option (Int × Unit)) : @Eq (Option (Int × Unit)) (sresume cx k 21 [.agg (cells .pat a), .agg (cells .pat b)] [] [1, 1, 1, 0, 1, 0, 0, 1] [r0] (ref15_Form_j0_st a b i) C) (((idx a.l i).bind fun d => ((idx b.l i).bind fun d1 => ((ref15_Form k d d1).bind fun r => (bif (r.1 != 0) then some (r.1, ()) else C [1, 1, 1, 0, 1, 0] [r0] (ref15_Form_l1_st a b (IntKind.i64.wrap (i + 1)))))))) := by kernel_rfl
theorem ref15_Form_j0_eq (k : Nat) (r0 : Nat) (a : Pat) (b : Pat) (i : Int) : ref15_Form_j0 k r0 a b i = ((idx a.l i).bind fun d => ((idx b.l i).bind fun d1 => ((ref15_Form k d d1).bind fun r => (bif (r.1 != 0) then some (r.1, ()) else ref15_Form_l1 k r0 a b (IntKind.i64.wrap (i + 1)))))) := (aresume_eq (cx := cx) k 21 [.agg (cells .pat a), .agg (cells .pat b)] [] [1, 1, 1, 0, 1, 0, 0, 1] [r0] (ref15_Form_j0_st a b i)).trans (ref15_Form_j0_seg k r0 a b i _)
theorem order_Whole_seg (k : Nat) (a : Pat) (b : Pat) (C : List Nat → List Nat → St → Option (Int × Unit)) : @Eq (Option (Int × Unit)) (scall cx k 22 [.agg (cells .pat a), .agg (cells .pat b)] [] C) (((order_Form k a b).bind fun r => (bif (r.1 != 0) then some (r.1, ()) else ((order_vars k a).bind fun r1 => ((order_vars k b).bind fun r2 => ((slices_Compare_string k r1.1 r2.1).bind fun r3 => some (r3.1, ()))))))) := by kernel_rfl
theorem order_Whole_eq (k : Nat) (a : Pat) (b : Pat) : order_Whole (k+1) a b = ((order_Form k a b).bind fun r => (bif (r.1 != 0) then some (r.1, ()) else ((order_vars k a).bind fun r1 => ((order_vars k b).bind fun r2 => ((slices_Compare_string k r1.1 r2.1).bind fun r3 => some (r3.1, ())))))) := (acall_eq k 22 [.agg (cells .pat a), .agg (cells .pat b)] []).trans (order_Whole_seg k a b _)
theorem ref15_Whole_seg (k : Nat) (a : Pat) (b : Pat) (C : List Nat → List Nat → St → Option (Int × Unit)) : @Eq (Option (Int × Unit)) (scall cx k 23 [.agg (cells .pat a), .agg (cells .pat b)] [] C) (((ref15_Form k a b).bind fun r => (bif (r.1 != 0) then some (r.1, ()) else ((ref15_vars k a).bind fun r1 => ((ref15_vars k b).bind fun r2 => C [1, 1, 1, 1, 1, 0, 1, 0] [k] (ref15_Whole_l0_st a b r1 r2 0)))))) := by kernel_rfl
theorem ref15_Whole_eq (k : Nat) (a : Pat) (b : Pat) : ref15_Whole (k+1) a b = ((ref15_Form k a b).bind fun r => (bif (r.1 != 0) then some (r.1, ()) else ((ref15_vars k a).bind fun r1 => ((ref15_vars k b).bind fun r2 => ref15_Whole_l0 k k a b r1 r2 0)))) := (acall_eq k 23 [.agg (cells .pat a), .agg (cells .pat b)] []).trans (ref15_Whole_seg k a b _)
theorem ref15_Whole_l0_seg (k : Nat) (n : Nat) (a : Pat) (b : Pat) (r1 : (List Bytes × Unit)) (r2 : (List Bytes × Unit)) (i : Int) (C : List Nat → List Nat → St → Option (Int × Unit)) : @Eq (Option (Int × Unit)) (sresume cx k 23 [.agg (cells .pat a), .agg (cells .pat b)] [] [1, 1, 1, 1, 1, 0, 1, 0] [n+1] (ref15_Whole_l0_st a b r1 r2 i) C) ((bif (decide (i < ((List.length r1.1 : Nat) : Int)) == true) then (bif decide (i < ((List.length r2.1 : Nat) : Int)) then C [1, 1, 1, 1, 1, 0, 1, 0, 0, 1] [n] (ref15_Whole_j0_st a b r1 r2 i) else some (0, ())) else some (0, ()))) := by kernel_rfl
theorem ref15_Whole_l0_eq (k : Nat) (n : Nat) (a : Pat) (b : Pat) (r1 : (List Bytes × Unit)) (r2 : (List Bytes × Unit)) (i : Int) : ref15_Whole_l0 k (n+1) a b r1 r2 i = (bif (decide (i < ((List.length r1.1 : Nat) : Int)) == true) then (bif decide (i < ((List.length r2.1 : Nat) : Int)) then ref15_Whole_j0 k n a b r1 r2 i else some (0, ())) else some (0, ())) := (aresume_eq (cx := cx) k 23 [.agg (cells .pat a), .agg (cells .pat b)] [] [1, 1, 1, 1, 1, 0, 1, 0] [n+1] (ref15_Whole_l0_st a b r1 r2 i)).trans (ref15_Whole_l0_seg k n a b r1 r2 i _)
theorem ref15_Whole_j0_seg (k : Nat) (r0 : Nat) (a : Pat) (b : Pat) (r1 : (List Bytes × Unit)) (r2 : (List Bytes × Unit)) (i : Int) (C : List Nat → List Nat → St → Option (Int × Unit)) : @Eq (Option (Int × Unit)) (sresume cx k 23 [.agg (cells .pat a), .agg (cells .pat b)] [] [1, 1, 1, 1, 1, 0, 1, 0, 0, 1] [r0] (ref15_Whole_j0_st a b r1 r2 i) C) (((idx r1.1 i).bind fun d => ((idx r2.1 i).bind fun d1 => ((ref15_text k d d1).bind fun r => (bif (r.1 != 0) then some (r.1, ()) else C [1, 1, 1, 1, 1, 0, 1, 0] [r0] (ref15_Whole_l0_st a b r1 r2 (IntKind.i64.wrap (i + 1)))))))) := by kernel_rfl
theorem ref15_Whole_j0_eq (k : Nat) (r0 : Nat) (a : Pat) (b : Pat) (r1 : (List Bytes × Unit)) (r2 : (List Bytes × Unit)) (i : Int) : ref15_Whole_j0 k r0 a b r1 r2 i = ((idx r1.1 i).bind fun d => ((idx r2.1 i).bind fun d1 => ((ref15_text k d d1).bind fun r => (bif (r.1 != 0) then some (r.1, ()) else ref15_Whole_l0 k r0 a b r1 r2 (IntKind.i64.wrap (i + 1)))))) := (aresume_eq (cx := cx) k 23 [.agg (cells .pat a), .agg (cells .pat b)] [] [1, 1, 1, 1, 1, 0, 1, 0, 0, 1] [r0] (ref15_Whole_j0_st a b r1 r2 i)).trans (ref15_Whole_j0_seg k r0 a b r1 r2 i _)
theorem ref12_Size_seg (k : Nat) (p : Pat) (C : List Nat → List Nat → St → Option (Int × Unit)) : @Eq (Option (Int × Unit)) (scall cx k 55 [.agg (cells .pat p)] [] C) (C [1, 1, 0, 1, 0] [k] (ref12_Size_l0_st p 1 0)) := by kernel_rfl
theorem ref12_Size_eq (k : Nat) (p : Pat) : ref12_Size (k+1) p = ref12_Size_l0 k k p 1 0 := (acall_eq k 55 [.agg (cells .pat p)] []).trans (ref12_Size_seg k p _)
theorem ref12_Size_l0_seg (k : Nat) (n : Nat) (p : Pat) (n_ : Int) (i : Int) (C : List Nat → List Nat → St → Option (Int × Unit)) : @Eq (Option (Int × Unit)) (sresume cx k 55 [.agg (cells .pat p)] [] [1, 1, 0, 1, 0] [n+1] (ref12_Size_l0_st p n_ i) C) ((bif decide (i < ((List.length p.l : Nat) : Int)) then ((idx p.l i).bind fun d => ((ref12_Size k d).bind fun r => C [1, 1, 0, 1, 0] [n] (ref12_Size_l0_st p (IntKind.i64.wrap (n_ + r.1)) (IntKind.i64.wrap (i + 1))))) else some (n_, ()))) := by kernel_rfl
theorem ref12_Size_l0_eq (k : Nat) (n : Nat) (p : Pat) (n_ : Int) (i : Int) : ref12_Size_l0 k (n+1) p n_ i = (bif decide (i < ((List.length p.l : Nat) : Int)) then ((idx p.l i).bind fun d => ((ref12_Size k d).bind fun r => ref12_Size_l0 k n p (IntKind.i64.wrap (n_ + r.1)) (IntKind.i64.wrap (i + 1)))) else some (n_, ())) := (aresume_eq (cx := cx) k 55 [.agg (cells .pat p)] [] [1, 1, 0, 1, 0] [n+1] (ref12_Size_l0_st p n_ i)).trans (ref12_Size_l0_seg k n p n_ i _)
theorem order_node_seg (k : Nat) (a : Pat) (b : Pat) (C : List Nat → List Nat → St → Option (Int × Unit)) : @Eq (Option (Int × Unit)) (scall cx k 60 [.agg (cells .pat a), .agg (cells .pat b)] [] C) (((cmp_Compare_int k a.k b.k).bind fun r => ((cmp_Compare_string k a.type b.type).bind fun r1 => ((cmp_Compare_int k a.lo b.lo).bind fun r2 => ((cmp_Compare_int k a.hi b.hi).bind fun r3 => ((cmp_Compare_int k ((List.length a.l : Nat) : Int) ((List.length b.l : Nat) : Int)).bind fun r4 => ((cmp_Or_int k ([r.1, r1.1, r2.1, r3.1, r4.1] : List Int)).bind fun r5 => some (r5.1, ())))))))) := by kernel_rfl
theorem order_node_eq (k : Nat) (a : Pat) (b : Pat) : order_node (k+1) a b = ((cmp_Compare_int k a.k b.k).bind fun r => ((cmp_Compare_string k a.type b.type).bind fun r1 => ((cmp_Compare_int k a.lo b.lo).bind fun r2 => ((cmp_Compare_int k a.hi b.hi).bind fun r3 => ((cmp_Compare_int k ((List.length a.l : Nat) : Int) ((List.length b.l : Nat) : Int)).bind fun r4 => ((cmp_Or_int k ([r.1, r1.1, r2.1, r3.1, r4.1] : List Int)).bind fun r5 => some (r5.1, ()))))))) := (acall_eq k 60 [.agg (cells .pat a), .agg (cells .pat b)] []).trans (order_node_seg k a b _)
theorem ref09_Number_seg (k : Nat) (a : Int) (b : Int) (C : List Nat → List Nat → St → Option (Int × Unit)) : @Eq (Option (Int × Unit)) (scall cx k 61 [.int .i64 a, .int .i64 b] [] C) ((bif (a == b) then some (0, ()) else (bif decide (a < b) then some ((-1), ()) else some (1, ())))) := by kernel_rfl
theorem ref09_Number_eq (k : Nat) (a : Int) (b : Int) : ref09_Number (k+1) a b = (bif (a == b) then some (0, ()) else (bif decide (a < b) then some ((-1), ()) else some (1, ()))) := (acall_eq k 61 [.int .i64 a, .int .i64 b] []).trans (ref09_Number_seg k a b _)
theorem ref15_text_seg (k : Nat) (a : Bytes) (b : Bytes) (C : List Nat → List Nat → St → Option (Int × Unit)) : @Eq (Option (Int × Unit)) (scall cx k 62 [.str a, .str b] [] C) ((bif (a == b) then some (0, ()) else (bif (Op.bytesLess a b) then some ((-1), ()) else some (1, ())))) := by kernel_rfl
theorem ref15_text_eq (k : Nat) (a : Bytes) (b : Bytes) : ref15_text (k+1) a b = (bif (a == b) then some (0, ()) else (bif (Op.bytesLess a b) then some ((-1), ()) else some (1, ()))) := (acall_eq k 62 [.str a, .str b] []).trans (ref15_text_seg k a b _)
theorem order_vars_seg (k : Nat) (p : Pat) (C : List Nat → List Nat → St → Option (List Bytes × Unit)) : @Eq (Option (List Bytes × Unit)) (scall cx k 64 [.agg (cells .pat p)] [] C) (C [1, 1, 0, 1, 0] [k] (order_vars_l0_st p 0 ([p.var] : List Bytes))) := by kernel_rfl
theorem order_vars_eq (k : Nat) (p : Pat) : order_vars (k+1) p = order_vars_l0 k k p 0 ([p.var] : List Bytes) := (acall_eq k 64 [.agg (cells .pat p)] []).trans (order_vars_seg k p _)
theorem order_vars_l0_seg (k : Nat) (n : Nat) (p : Pat) (t12 : Int) (out : List Bytes) (C : List Nat → List Nat → St → Option (List Bytes × Unit)) : @Eq (Option (List Bytes × Unit)) (sresume cx k 64 [.agg (cells .pat p)] [] [1, 1, 0, 1, 0] [n+1] (order_vars_l0_st p t12 out) C) ((bif decide (t12 < ((List.length p.l : Nat) : Int)) then ((idx p.l t12).bind fun d => ((order_vars k d).bind fun r => (bif decide ((List.length out + List.length r.1) * 16 ≤ 140737488355328) then C [1, 1, 0, 1, 0] [n] (order_vars_l0_st p (IntKind.i64.wrap (t12 + 1)) (out ++ r.1)) else none))) else some (out, ()))) := by kernel_rfl
theorem order_vars_l0_eq (k : Nat) (n : Nat) (p : Pat) (t12 : Int) (out : List Bytes) : order_vars_l0 k (n+1) p t12 out = (bif decide (t12 < ((List.length p.l : Nat) : Int)) then ((idx p.l t12).bind fun d => ((order_vars k d).bind fun r => (bif decide ((List.length out + List.length r.1) * 16 ≤ 140737488355328) then order_vars_l0 k n p (IntKind.i64.wrap (t12 + 1)) (out ++ r.1) else none))) else some (out, ())) := (aresume_eq (cx := cx) k 64 [.agg (cells .pat p)] [] [1, 1, 0, 1, 0] [n+1] (order_vars_l0_st p t12 out)).trans (order_vars_l0_seg k n p t12 out _)
theorem slices_Compare_string_seg (k : Nat) (s1 : List Bytes) (s2 : List Bytes) (C : List Nat → List Nat → St → Option (Int × Unit)) : @Eq (Option (Int × Unit)) (scall cx k 63 [.sl .str false s1, .sl .str false s2] [] C) (C [1, 0, 1, 0] [k] (slices_Compare_string_l0_st s1 s2 0)) := by kernel_rfl
theorem slices_Compare_string_eq (k : Nat) (s1 : List Bytes) (s2 : List Bytes) : slices_Compare_string (k+1) s1 s2 = slices_Compare_string_l0 k k s1 s2 0 := (acall_eq k 63 [.sl .str false s1, .sl .str false s2] []).trans (slices_Compare_string_seg k s1 s2 _)
theorem slices_Compare_string_l0_seg (k : Nat) (n : Nat) (s1 : List Bytes) (s2 : List Bytes) (t11 : Int) (C : List Nat → List Nat → St → Option (Int × Unit)) : @Eq (Option (Int × Unit)) (sresume cx k 63 [.sl .str false s1, .sl .str false s2] [] [1, 0, 1, 0] [n+1] (slices_Compare_string_l0_st s1 s2 t11) C) ((bif decide (t11 < ((List.length s1 : Nat) : Int)) then ((idx s1 t11).bind fun d => (bif decide (t11 ≥ ((List.length s2 : Nat) : Int)) then some (1, ()) else ((idx s2 t11).bind fun d1 => ((cmp_Compare_string k d d1).bind fun r => (bif (r.1 != 0) then some (r.1, ()) else C [1, 0, 1, 0] [n] (slices_Compare_string_l0_st s1 s2 (IntKind.i64.wrap (t11 + 1)))))))) else (bif decide (((List.length s1 : Nat) : Int) < ((List.length s2 : Nat) : Int)) then some ((-1), ()) else some (0, ())))) := by kernel_rfl
theorem slices_Compare_string_l0_eq (k : Nat) (n : Nat) (s1 : List Bytes) (s2 : List Bytes) (t11 : Int) : slices_Compare_string_l0 k (n+1) s1 s2 t11 = (bif decide (t11 < ((List.length s1 : Nat) : Int)) then ((idx s1 t11).bind fun d => (bif decide (t11 ≥ ((List.length s2 : Nat) : Int)) then some (1, ()) else ((idx s2 t11).bind fun d1 => ((cmp_Compare_string k d d1).bind fun r => (bif (r.1 != 0) then some (r.1, ()) else slices_Compare_string_l0 k n s1 s2 (IntKind.i64.wrap (t11 + 1))))))) else (bif decide (((List.length s1 : Nat) : Int) < ((List.length s2 : Nat) : Int)) then some ((-1), ()) else some (0, ()))) := (aresume_eq (cx := cx) k 63 [.sl .str false s1, .sl .str false s2] [] [1, 0, 1, 0] [n+1] (slices_Compare_string_l0_st s1 s2 t11)).trans (slices_Compare_string_l0_seg k n s1 s2 t11 _)
theorem ref15_vars_seg (k : Nat) (p : Pat) (C : List Nat → List Nat → St → Option (List Bytes × Unit)) : @Eq (Option (List Bytes × Unit)) (scall cx k 65 [.agg (cells .pat p)] [] C) (C [1, 1, 0, 1, 0] [k] (ref15_vars_l0_st p 0 ([p.var] : List Bytes))) := by kernel_rfl
theorem ref15_vars_eq (k : Nat) (p : Pat) : ref15_vars (k+1) p = ref15_vars_l0 k k p 0 ([p.var] : List Bytes) := (acall_eq k 65 [.agg (cells .pat p)] []).trans (ref15_vars_seg k p _)
theorem ref15_vars_l0_seg (k : Nat) (n : Nat) (p : Pat) (i : Int) (out : List Bytes) (C : List Nat → List Nat → St → Option (List Bytes × Unit)) : @Eq (Option (List Bytes × Unit)) (sresume cx k 65 [.agg (cells .pat p)] [] [1, 1, 0, 1, 0] [n+1] (ref15_vars_l0_st p i out) C) ((bif decide (i < ((List.length p.l : Nat) : Int)) then ((idx p.l i).bind fun d => ((ref15_vars k d).bind fun r => (bif decide ((List.length out + List.length r.1) * 16 ≤ 140737488355328) then C [1, 1, 0, 1, 0] [n] (ref15_vars_l0_st p (IntKind.i64.wrap (i + 1)) (out ++ r.1)) else none))) else some (out, ()))) := by kernel_rfl
theorem ref15_vars_l0_eq (k : Nat) (n : Nat) (p : Pat) (i : Int) (out : List Bytes) : ref15_vars_l0 k (n+1) p i out = (bif decide (i < ((List.length p.l : Nat) : Int)) then ((idx p.l i).bind fun d => ((ref15_vars k d).bind fun r => (bif decide ((List.length out + List.length r.1) * 16 ≤ 140737488355328) then ref15_vars_l0 k n p (IntKind.i64.wrap (i + 1)) (out ++ r.1) else none))) else some (out, ())) := (aresume_eq (cx := cx) k 65 [.agg (cells .pat p)] [] [1, 1, 0, 1, 0] [n+1] (ref15_vars_l0_st p i out)).trans (ref15_vars_l0_seg k n p i out _)
theorem cmp_Compare_int_seg (k : Nat) (x : Int) (y : Int) (C : List Nat → List Nat → St → Option (Int × Unit)) : @Eq (Option (Int × Unit)) (scall cx k 94 [.int .i64 x, .int .i64 y] [] C) (((cmp_isNaN_int k x).bind fun r => ((cmp_isNaN_int k y).bind fun r1 => (bif r.1 then (bif r1.1 then some (0, ()) else some ((-1), ())) else (bif r1.1 then some (1, ()) else (bif decide (x < y) then some ((-1), ()) else (bif decide (x > y) then some (1, ()) else some (0, ())))))))) := by kernel_rfl
theorem cmp_Compare_int_eq (k : Nat) (x : Int) (y : Int) : cmp_Compare_int (k+1) x y = ((cmp_isNaN_int k x).bind fun r => ((cmp_isNaN_int k y).bind fun r1 => (bif r.1 then (bif r1.1 then some (0, ()) else some ((-1), ())) else (bif r1.1 then some (1, ()) else (bif decide (x < y) then some ((-1), ()) else (bif decide (x > y) then some (1, ()) else some (0, ()))))))) := (acall_eq k 94 [.int .i64 x, .int .i64 y] []).trans (cmp_Compare_int_seg k x y _)
theorem cmp_Compare_string_seg (k : Nat) (x : Bytes) (y : Bytes) (C : List Nat → List Nat → St → Option (Int × Unit)) : @Eq (Option (Int × Unit)) (scall cx k 95 [.str x, .str y] [] C) (((cmp_isNaN_string k x).bind fun r => ((cmp_isNaN_string k y).bind fun r1 => (bif r.1 then (bif r1.1 then some (0, ()) else some ((-1), ())) else (bif r1.1 then some (1, ()) else (bif (Op.bytesLess x y) then some ((-1), ()) else (bif (!(Op.bytesLess x y || x == y)) then some (1, ()) else some (0, ())))))))) := by kernel_rfl
theorem cmp_Compare_string_eq (k : Nat) (x : Bytes) (y : Bytes) : cmp_Compare_string (k+1) x y = ((cmp_isNaN_string k x).bind fun r => ((cmp_isNaN_string k y).bind fun r1 => (bif r.1 then (bif r1.1 then some (0, ()) else some ((-1), ())) else (bif r1.1 then some (1, ()) else (bif (Op.bytesLess x y) then some ((-1), ()) else (bif (!(Op.bytesLess x y || x == y)) then some (1, ()) else some (0, ()))))))) := (acall_eq k 95 [.str x, .str y] []).trans (cmp_Compare_string_seg k x y _)
theorem cmp_Or_int_seg (k : Nat) (vals : List Int) (C : List Nat → List Nat → St → Option (Int × Unit)) : @Eq (Option (Int × Unit)) (scall cx k 93 [.sl (.int .i64) false vals] [] C) (C [1, 1, 0, 1, 0] [k] (cmp_Or_int_l0_st vals 0)) := by kernel_rfl
theorem cmp_Or_int_eq (k : Nat) (vals : List Int) : cmp_Or_int (k+1) vals = cmp_Or_int_l0 k k vals 0 := (acall_eq k 93 [.sl (.int .i64) false vals] []).trans (cmp_Or_int_seg k vals _)
theorem cmp_Or_int_l0_seg (k : Nat) (n : Nat) (vals : List Int) (t8 : Int) (C : List Nat → List Nat → St → Option (Int × Unit)) : @Eq (Option (Int × Unit)) (sresume cx k 93 [.sl (.int .i64) false vals] [] [1, 1, 0, 1, 0] [n+1] (cmp_Or_int_l0_st vals t8) C) ((bif decide (t8 < ((List.length vals : Nat) : Int)) then ((idx vals t8).bind fun d => (bif (d != 0) then some (d, ()) else C [1, 1, 0, 1, 0] [n] (cmp_Or_int_l0_st vals (IntKind.i64.wrap (t8 + 1))))) else some (0, ()))) := by kernel_rfl
theorem cmp_Or_int_l0_eq (k : Nat) (n : Nat) (vals : List Int) (t8 : Int) : cmp_Or_int_l0 k (n+1) vals t8 = (bif decide (t8 < ((List.length vals : Nat) : Int)) then ((idx vals t8).bind fun d => (bif (d != 0) then some (d, ()) else cmp_Or_int_l0 k n vals (IntKind.i64.wrap (t8 + 1)))) else some (0, ())) := (aresume_eq (cx := cx) k 93 [.sl (.int .i64) false vals] [] [1, 1, 0, 1, 0] [n+1] (cmp_Or_int_l0_st vals t8)).trans (cmp_Or_int_l0_seg k n vals t8 _)
theorem cmp_isNaN_int_seg (k : Nat) (x : Int) (C : List Nat → List Nat → St → Option (Bool × Unit)) : @Eq (Option (Bool × Unit)) (scall cx k 119 [.int .i64 x] [] C) (some ((x != x), ())) := by kernel_rfl
theorem cmp_isNaN_int_eq (k : Nat) (x : Int) : cmp_isNaN_int (k+1) x = some ((x != x), ()) := (acall_eq k 119 [.int .i64 x] []).trans (cmp_isNaN_int_seg k x _)
theorem cmp_isNaN_string_seg (k : Nat) (x : Bytes) (C : List Nat → List Nat → St → Option (Bool × Unit)) : @Eq (Option (Bool × Unit)) (scall cx k 120 [.str x] [] C) (some ((!(x == x)), ())) := by kernel_rfl
theorem cmp_isNaN_string_eq (k : Nat) (x : Bytes) : cmp_isNaN_string (k+1) x = some ((!(x == x)), ()) := (acall_eq k 120 [.str x] []).trans (cmp_isNaN_string_seg k x _)
theorem law15_OrderTells_def : @law15_OrderTells = fun k a b => acall cx k 4 [.agg (cells .pat a), .agg (cells .pat b)] [] := rfl
attribute [irreducible] law15_OrderTells law15_light law15_light_l0_st law15_light_l0 law15_light_j0_st law15_light_j0 law15_awake order_Form order_Form_l0_st order_Form_l0 ref15_Form ref15_Form_l0_st ref15_Form_l0 ref15_Form_l1_st ref15_Form_l1 ref15_Form_j0_st ref15_Form_j0 order_Whole ref15_Whole ref15_Whole_l0_st ref15_Whole_l0 ref15_Whole_j0_st ref15_Whole_j0 ref12_Size ref12_Size_l0_st ref12_Size_l0 order_node ref09_Number ref15_text order_vars order_vars_l0_st order_vars_l0 slices_Compare_string slices_Compare_string_l0_st slices_Compare_string_l0 ref15_vars ref15_vars_l0_st ref15_vars_l0 cmp_Compare_int cmp_Compare_string cmp_Or_int cmp_Or_int_l0_st cmp_Or_int_l0 cmp_isNaN_int cmp_isNaN_string
end Go.Ev.HpOT
