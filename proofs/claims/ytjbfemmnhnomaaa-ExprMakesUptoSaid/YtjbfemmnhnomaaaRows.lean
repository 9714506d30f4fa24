/-
  NARROWER THAN 'FOR EVERY INPUT', by the rows' own cells (each row's printed sentence says how): QueryRenames: loops · OrderTells: loops · OrderOrder: loops · ExprMakes: loops · ExprOrder: loops · OrderSorted: loops · OrderSorts: loops · ExprRenamed: loops · ExprTells: loops · QueryRenamed: loops.
  DERIVED. THE GIVEN ROWS OF THIS SEAT. 10 by the template 'for every input the law returns true; each argument reads behind the call as it read before'; 0 by the template 'total and deterministic' (their statements: YtjbfemmnhnomaaaTotals.lean).
  GIVEN WITH THE SEED: the statements are not yours to turn. If you find one false, say at which input.
  Laid BY PROGRAM, IN A SANDBOX (cutbox-rows.mjs): the forced cells as the released guide's own fill.sh prints them over the translation e4c03f90c00bd7a9… (all of the seat's roots in one cut). By AI agents, Wed Nov 11 2026. No macro, syntax, notation, axiom, sorry.
-/
import Derived.Test.YtjbfemmnhnomaaaChecked
import GoSem.Claim
import GoSem.ClaimJoined
import GoSem.ClaimMapViews
import Derived.JoinedTies
import Derived.KernelRfl
namespace Go.Proofs.Ytjbfemmnhnomaaa
/- THE CELL 'sum', in the pinned program and in every row, IS THE sha256 OF THE DUMP (.gsa) THAT YtjbfemmnhnomaaaProg.lean LOADS. Nothing in Lean hashes anything: it is a label: what it is worth is what the hold of that sum in a sandbox is worth. -/
noncomputable def Try.pinned : Pinned := { name := "ytjbfemmnhnomaaa", sum := "e4c03f90c00bd7a91dff2fd1cf0afe0c458597e1f81f264b756582313d40d0cc", checked := Try.checked }
namespace Rows
def none {H : Type} : Left H := { results := [], args := [] }

/-- 'haruspexlaw13.QueryRenames': WHATEVER THE INPUT: true; the input reads as it did. -/
def queryRenamesSpec : ChangeSpec := { name := "queryRenames", fn := fun _ => fun
  | [d1, d2, d3] => { results := [.lit (.bool true)], args := [d1, d2, d3] }
  | _ => none }
def queryRenamesRow : OpenClaim := { program := "ytjbfemmnhnomaaa", sum := "e4c03f90c00bd7a91dff2fd1cf0afe0c458597e1f81f264b756582313d40d0cc", func := "haruspex/haruspexlaw13.QueryRenames", spec := "queryRenames", recurses := true, loops := true, apart := false }
def QueryRenamesSaid : Prop := queryRenamesRow.holds Try.pinned (OpenSpec.ofChange queryRenamesSpec)

/-- ITS FALSE NEIGHBOUR: 'it returns false'. Refute it at one input. -/
def queryRenamesWrong : ChangeSpec := { name := "queryRenames", fn := fun _ => fun
  | [d1, d2, d3] => { results := [.lit (.bool false)], args := [d1, d2, d3] }
  | _ => none }
def QueryRenamesWrongFalsely : Prop := queryRenamesRow.holds Try.pinned (OpenSpec.ofChange queryRenamesWrong)

/-- 'haruspexlaw15.OrderTells': WHATEVER THE INPUT: true; the input reads as it did. -/
def orderTellsSpec : ChangeSpec := { name := "orderTells", fn := fun _ => fun
  | [d1, d2] => { results := [.lit (.bool true)], args := [d1, d2] }
  | _ => none }
def orderTellsRow : OpenClaim := { program := "ytjbfemmnhnomaaa", sum := "e4c03f90c00bd7a91dff2fd1cf0afe0c458597e1f81f264b756582313d40d0cc", func := "haruspex/haruspexlaw15.OrderTells", spec := "orderTells", recurses := true, loops := true, apart := false }
def OrderTellsSaid : Prop := orderTellsRow.holds Try.pinned (OpenSpec.ofChange orderTellsSpec)

/-- ITS FALSE NEIGHBOUR: 'it returns false'. Refute it at one input. -/
def orderTellsWrong : ChangeSpec := { name := "orderTells", fn := fun _ => fun
  | [d1, d2] => { results := [.lit (.bool false)], args := [d1, d2] }
  | _ => none }
def OrderTellsWrongFalsely : Prop := orderTellsRow.holds Try.pinned (OpenSpec.ofChange orderTellsWrong)

/-- 'haruspexlaw15.OrderOrder': WHATEVER THE INPUT: true; the input reads as it did. -/
def orderOrderSpec : ChangeSpec := { name := "orderOrder", fn := fun _ => fun
  | [d1, d2, d3, d4, d5] => { results := [.lit (.bool true)], args := [d1, d2, d3, d4, d5] }
  | _ => none }
def orderOrderRow : OpenClaim := { program := "ytjbfemmnhnomaaa", sum := "e4c03f90c00bd7a91dff2fd1cf0afe0c458597e1f81f264b756582313d40d0cc", func := "haruspex/haruspexlaw15.OrderOrder", spec := "orderOrder", recurses := true, loops := true, apart := false }
def OrderOrderSaid : Prop := orderOrderRow.holds Try.pinned (OpenSpec.ofChange orderOrderSpec)

/-- ITS FALSE NEIGHBOUR: 'it returns false'. Refute it at one input. -/
def orderOrderWrong : ChangeSpec := { name := "orderOrder", fn := fun _ => fun
  | [d1, d2, d3, d4, d5] => { results := [.lit (.bool false)], args := [d1, d2, d3, d4, d5] }
  | _ => none }
def OrderOrderWrongFalsely : Prop := orderOrderRow.holds Try.pinned (OpenSpec.ofChange orderOrderWrong)

/-- 'haruspexlaw09.ExprMakes': WHATEVER THE INPUT: true; the input reads as it did. -/
def exprMakesSpec : ChangeSpec := { name := "exprMakes", fn := fun _ => fun
  | [d1, d2, d3, d4, d5] => { results := [.lit (.bool true)], args := [d1, d2, d3, d4, d5] }
  | _ => none }
def exprMakesRow : OpenClaim := { program := "ytjbfemmnhnomaaa", sum := "e4c03f90c00bd7a91dff2fd1cf0afe0c458597e1f81f264b756582313d40d0cc", func := "haruspex/haruspexlaw09.ExprMakes", spec := "exprMakes", unfollowed := true, recurses := true, loops := true, apart := false }
def ExprMakesSaid : Prop := exprMakesRow.holds Try.pinned (OpenSpec.ofChange exprMakesSpec)

/-- ITS FALSE NEIGHBOUR: 'it returns false'. Refute it at one input. -/
def exprMakesWrong : ChangeSpec := { name := "exprMakes", fn := fun _ => fun
  | [d1, d2, d3, d4, d5] => { results := [.lit (.bool false)], args := [d1, d2, d3, d4, d5] }
  | _ => none }
def ExprMakesWrongFalsely : Prop := exprMakesRow.holds Try.pinned (OpenSpec.ofChange exprMakesWrong)

/-- 'haruspexlaw09.ExprOrder': WHATEVER THE INPUT: true; the input reads as it did. -/
def exprOrderSpec : ChangeSpec := { name := "exprOrder", fn := fun _ => fun
  | [d1, d2, d3] => { results := [.lit (.bool true)], args := [d1, d2, d3] }
  | _ => none }
def exprOrderRow : OpenClaim := { program := "ytjbfemmnhnomaaa", sum := "e4c03f90c00bd7a91dff2fd1cf0afe0c458597e1f81f264b756582313d40d0cc", func := "haruspex/haruspexlaw09.ExprOrder", spec := "exprOrder", unfollowed := true, recurses := true, loops := true, apart := false }
def ExprOrderSaid : Prop := exprOrderRow.holds Try.pinned (OpenSpec.ofChange exprOrderSpec)

/-- ITS FALSE NEIGHBOUR: 'it returns false'. Refute it at one input. -/
def exprOrderWrong : ChangeSpec := { name := "exprOrder", fn := fun _ => fun
  | [d1, d2, d3] => { results := [.lit (.bool false)], args := [d1, d2, d3] }
  | _ => none }
def ExprOrderWrongFalsely : Prop := exprOrderRow.holds Try.pinned (OpenSpec.ofChange exprOrderWrong)

/-- 'haruspexlaw15.OrderSorted': WHATEVER THE INPUT: true; the input reads as it did. -/
def orderSortedSpec : ChangeSpec := { name := "orderSorted", fn := fun _ => fun
  | [d] => { results := [.lit (.bool true)], args := [d] }
  | _ => none }
def orderSortedRow : OpenClaim := { program := "ytjbfemmnhnomaaa", sum := "e4c03f90c00bd7a91dff2fd1cf0afe0c458597e1f81f264b756582313d40d0cc", func := "haruspex/haruspexlaw15.OrderSorted", spec := "orderSorted", inPlace := ["slices.overlaps[haruspex/api.Pat]"], unfollowed := true, recurses := true, loops := true, apart := false }
def OrderSortedSaid : Prop := orderSortedRow.holds Try.pinned (OpenSpec.ofChange orderSortedSpec)

/-- ITS FALSE NEIGHBOUR: 'it returns false'. Refute it at one input. -/
def orderSortedWrong : ChangeSpec := { name := "orderSorted", fn := fun _ => fun
  | [d] => { results := [.lit (.bool false)], args := [d] }
  | _ => none }
def OrderSortedWrongFalsely : Prop := orderSortedRow.holds Try.pinned (OpenSpec.ofChange orderSortedWrong)

/-- 'haruspexlaw15.OrderSorts': WHATEVER THE INPUT: true; the input reads as it did. -/
def orderSortsSpec : ChangeSpec := { name := "orderSorts", fn := fun _ => fun
  | [d1, d2] => { results := [.lit (.bool true)], args := [d1, d2] }
  | _ => none }
def orderSortsRow : OpenClaim := { program := "ytjbfemmnhnomaaa", sum := "e4c03f90c00bd7a91dff2fd1cf0afe0c458597e1f81f264b756582313d40d0cc", func := "haruspex/haruspexlaw15.OrderSorts", spec := "orderSorts", inPlace := ["slices.overlaps[haruspex/api.Pat]", "slices.overlaps[haruspex/api.Expr]"], unfollowed := true, recurses := true, loops := true, apart := false }
def OrderSortsSaid : Prop := orderSortsRow.holds Try.pinned (OpenSpec.ofChange orderSortsSpec)

/-- ITS FALSE NEIGHBOUR: 'it returns false'. Refute it at one input. -/
def orderSortsWrong : ChangeSpec := { name := "orderSorts", fn := fun _ => fun
  | [d1, d2] => { results := [.lit (.bool false)], args := [d1, d2] }
  | _ => none }
def OrderSortsWrongFalsely : Prop := orderSortsRow.holds Try.pinned (OpenSpec.ofChange orderSortsWrong)

/-- 'haruspexlaw09.ExprRenamed': WHATEVER THE INPUT: true; the input reads as it did. -/
def exprRenamedSpec : ChangeSpec := { name := "exprRenamed", fn := fun _ => fun
  | [d1, d2, d3] => { results := [.lit (.bool true)], args := [d1, d2, d3] }
  | _ => none }
def exprRenamedRow : OpenClaim := { program := "ytjbfemmnhnomaaa", sum := "e4c03f90c00bd7a91dff2fd1cf0afe0c458597e1f81f264b756582313d40d0cc", func := "haruspex/haruspexlaw09.ExprRenamed", spec := "exprRenamed", unfollowed := true, recurses := true, loops := true, apart := false }
def ExprRenamedSaid : Prop := exprRenamedRow.holds Try.pinned (OpenSpec.ofChange exprRenamedSpec)

/-- ITS FALSE NEIGHBOUR: 'it returns false'. Refute it at one input. -/
def exprRenamedWrong : ChangeSpec := { name := "exprRenamed", fn := fun _ => fun
  | [d1, d2, d3] => { results := [.lit (.bool false)], args := [d1, d2, d3] }
  | _ => none }
def ExprRenamedWrongFalsely : Prop := exprRenamedRow.holds Try.pinned (OpenSpec.ofChange exprRenamedWrong)

/-- 'haruspexlaw09.ExprTells': WHATEVER THE INPUT: true; the input reads as it did. -/
def exprTellsSpec : ChangeSpec := { name := "exprTells", fn := fun _ => fun
  | [d1, d2] => { results := [.lit (.bool true)], args := [d1, d2] }
  | _ => none }
def exprTellsRow : OpenClaim := { program := "ytjbfemmnhnomaaa", sum := "e4c03f90c00bd7a91dff2fd1cf0afe0c458597e1f81f264b756582313d40d0cc", func := "haruspex/haruspexlaw09.ExprTells", spec := "exprTells", unfollowed := true, recurses := true, loops := true, apart := false }
def ExprTellsSaid : Prop := exprTellsRow.holds Try.pinned (OpenSpec.ofChange exprTellsSpec)

/-- ITS FALSE NEIGHBOUR: 'it returns false'. Refute it at one input. -/
def exprTellsWrong : ChangeSpec := { name := "exprTells", fn := fun _ => fun
  | [d1, d2] => { results := [.lit (.bool false)], args := [d1, d2] }
  | _ => none }
def ExprTellsWrongFalsely : Prop := exprTellsRow.holds Try.pinned (OpenSpec.ofChange exprTellsWrong)

/-- 'haruspexlaw13.QueryRenamed': WHATEVER THE INPUT: true; the input reads as it did. -/
def queryRenamedSpec : ChangeSpec := { name := "queryRenamed", fn := fun _ => fun
  | [d1, d2, d3] => { results := [.lit (.bool true)], args := [d1, d2, d3] }
  | _ => none }
def queryRenamedRow : OpenClaim := { program := "ytjbfemmnhnomaaa", sum := "e4c03f90c00bd7a91dff2fd1cf0afe0c458597e1f81f264b756582313d40d0cc", func := "haruspex/haruspexlaw13.QueryRenamed", spec := "queryRenamed", unfollowed := true, recurses := true, loops := true, apart := false }
def QueryRenamedSaid : Prop := queryRenamedRow.holds Try.pinned (OpenSpec.ofChange queryRenamedSpec)

/-- ITS FALSE NEIGHBOUR: 'it returns false'. Refute it at one input. -/
def queryRenamedWrong : ChangeSpec := { name := "queryRenamed", fn := fun _ => fun
  | [d1, d2, d3] => { results := [.lit (.bool false)], args := [d1, d2, d3] }
  | _ => none }
def QueryRenamedWrongFalsely : Prop := queryRenamedRow.holds Try.pinned (OpenSpec.ofChange queryRenamedWrong)

/- THE SECOND FORM. 'bulk': how many values and letters a reading holds, each counted each time it is reached (what is shared counts as often as it is met; a slice's spare places count too). A statement '..UptoSaid' is the law's where the arguments, and the package variables that the reading takes, are together of bulk at most 1048576: NARROWER than '..Said'. Prove '..Said' where nothing that the law and all that it calls make is longer than what came in: it says more and counts as full. Else prove '..UptoSaid'. A law counts once. -/
mutual
def uptoBulk {H : Type} : DataW H → Nat
  | .lit (.string bytes) => bytes.length + 1
  | .lit _ => 1
  | .nil => 1
  | .ptr d => uptoBulk d + 1
  | .slice elems spare => uptoBulkAll elems + uptoBulkAll spare + 1
  | .agg parts => uptoBulkAll parts + 1
  | .iface _ d => uptoBulk d + 1
  | .map entries => uptoBulkEntries entries + 1
  | .held _ => 1
def uptoBulkAll {H : Type} : List (DataW H) → Nat
  | [] => 0
  | d :: r => uptoBulk d + uptoBulkAll r
def uptoBulkEntries {H : Type} : List (Lit × DataW H) → Nat
  | [] => 0
  | x :: r => uptoBulkEntry x + uptoBulkEntries r
def uptoBulkEntry {H : Type} : Lit × DataW H → Nat
  | (.string bytes, d) => bytes.length + uptoBulk d + 1
  | (_, d) => uptoBulk d + 1
 end
def uptoSmall : (H : Type) → List (DataW H) → Bool := fun _ ds => decide (uptoBulkAll ds ≤ 1048576)
def OpenSpec.upto (s : _root_.Go.ChangeSpec) : _root_.Go.OpenSpec := { _root_.Go.OpenSpec.ofChange s with cond := some uptoSmall }

/-- 'haruspexlaw13.QueryRenames', WHERE WHAT IT READS IS OF BULK AT MOST 1048576: true; the input reads as it did. -/
def queryRenamesUptoRow : OpenClaim := { program := "ytjbfemmnhnomaaa", sum := "e4c03f90c00bd7a91dff2fd1cf0afe0c458597e1f81f264b756582313d40d0cc", func := "haruspex/haruspexlaw13.QueryRenames", spec := "queryRenames", recurses := true, loops := true, apart := false, narrowed := true }
def QueryRenamesUptoSaid : Prop := queryRenamesUptoRow.holds Try.pinned (OpenSpec.upto queryRenamesSpec)

/-- 'haruspexlaw15.OrderTells', WHERE WHAT IT READS IS OF BULK AT MOST 1048576: true; the input reads as it did. -/
def orderTellsUptoRow : OpenClaim := { program := "ytjbfemmnhnomaaa", sum := "e4c03f90c00bd7a91dff2fd1cf0afe0c458597e1f81f264b756582313d40d0cc", func := "haruspex/haruspexlaw15.OrderTells", spec := "orderTells", recurses := true, loops := true, apart := false, narrowed := true }
def OrderTellsUptoSaid : Prop := orderTellsUptoRow.holds Try.pinned (OpenSpec.upto orderTellsSpec)

/-- 'haruspexlaw15.OrderOrder', WHERE WHAT IT READS IS OF BULK AT MOST 1048576: true; the input reads as it did. -/
def orderOrderUptoRow : OpenClaim := { program := "ytjbfemmnhnomaaa", sum := "e4c03f90c00bd7a91dff2fd1cf0afe0c458597e1f81f264b756582313d40d0cc", func := "haruspex/haruspexlaw15.OrderOrder", spec := "orderOrder", recurses := true, loops := true, apart := false, narrowed := true }
def OrderOrderUptoSaid : Prop := orderOrderUptoRow.holds Try.pinned (OpenSpec.upto orderOrderSpec)

/-- 'haruspexlaw09.ExprMakes', WHERE WHAT IT READS IS OF BULK AT MOST 1048576: true; the input reads as it did. -/
def exprMakesUptoRow : OpenClaim := { program := "ytjbfemmnhnomaaa", sum := "e4c03f90c00bd7a91dff2fd1cf0afe0c458597e1f81f264b756582313d40d0cc", func := "haruspex/haruspexlaw09.ExprMakes", spec := "exprMakes", unfollowed := true, recurses := true, loops := true, apart := false, narrowed := true }
def ExprMakesUptoSaid : Prop := exprMakesUptoRow.holds Try.pinned (OpenSpec.upto exprMakesSpec)

/-- 'haruspexlaw09.ExprOrder', WHERE WHAT IT READS IS OF BULK AT MOST 1048576: true; the input reads as it did. -/
def exprOrderUptoRow : OpenClaim := { program := "ytjbfemmnhnomaaa", sum := "e4c03f90c00bd7a91dff2fd1cf0afe0c458597e1f81f264b756582313d40d0cc", func := "haruspex/haruspexlaw09.ExprOrder", spec := "exprOrder", unfollowed := true, recurses := true, loops := true, apart := false, narrowed := true }
def ExprOrderUptoSaid : Prop := exprOrderUptoRow.holds Try.pinned (OpenSpec.upto exprOrderSpec)

/-- 'haruspexlaw15.OrderSorted', WHERE WHAT IT READS IS OF BULK AT MOST 1048576: true; the input reads as it did. -/
def orderSortedUptoRow : OpenClaim := { program := "ytjbfemmnhnomaaa", sum := "e4c03f90c00bd7a91dff2fd1cf0afe0c458597e1f81f264b756582313d40d0cc", func := "haruspex/haruspexlaw15.OrderSorted", spec := "orderSorted", inPlace := ["slices.overlaps[haruspex/api.Pat]"], unfollowed := true, recurses := true, loops := true, apart := false, narrowed := true }
def OrderSortedUptoSaid : Prop := orderSortedUptoRow.holds Try.pinned (OpenSpec.upto orderSortedSpec)

/-- 'haruspexlaw15.OrderSorts', WHERE WHAT IT READS IS OF BULK AT MOST 1048576: true; the input reads as it did. -/
def orderSortsUptoRow : OpenClaim := { program := "ytjbfemmnhnomaaa", sum := "e4c03f90c00bd7a91dff2fd1cf0afe0c458597e1f81f264b756582313d40d0cc", func := "haruspex/haruspexlaw15.OrderSorts", spec := "orderSorts", inPlace := ["slices.overlaps[haruspex/api.Pat]", "slices.overlaps[haruspex/api.Expr]"], unfollowed := true, recurses := true, loops := true, apart := false, narrowed := true }
def OrderSortsUptoSaid : Prop := orderSortsUptoRow.holds Try.pinned (OpenSpec.upto orderSortsSpec)

/-- 'haruspexlaw09.ExprRenamed', WHERE WHAT IT READS IS OF BULK AT MOST 1048576: true; the input reads as it did. -/
def exprRenamedUptoRow : OpenClaim := { program := "ytjbfemmnhnomaaa", sum := "e4c03f90c00bd7a91dff2fd1cf0afe0c458597e1f81f264b756582313d40d0cc", func := "haruspex/haruspexlaw09.ExprRenamed", spec := "exprRenamed", unfollowed := true, recurses := true, loops := true, apart := false, narrowed := true }
def ExprRenamedUptoSaid : Prop := exprRenamedUptoRow.holds Try.pinned (OpenSpec.upto exprRenamedSpec)

/-- 'haruspexlaw09.ExprTells', WHERE WHAT IT READS IS OF BULK AT MOST 1048576: true; the input reads as it did. -/
def exprTellsUptoRow : OpenClaim := { program := "ytjbfemmnhnomaaa", sum := "e4c03f90c00bd7a91dff2fd1cf0afe0c458597e1f81f264b756582313d40d0cc", func := "haruspex/haruspexlaw09.ExprTells", spec := "exprTells", unfollowed := true, recurses := true, loops := true, apart := false, narrowed := true }
def ExprTellsUptoSaid : Prop := exprTellsUptoRow.holds Try.pinned (OpenSpec.upto exprTellsSpec)

/-- 'haruspexlaw13.QueryRenamed', WHERE WHAT IT READS IS OF BULK AT MOST 1048576: true; the input reads as it did. -/
def queryRenamedUptoRow : OpenClaim := { program := "ytjbfemmnhnomaaa", sum := "e4c03f90c00bd7a91dff2fd1cf0afe0c458597e1f81f264b756582313d40d0cc", func := "haruspex/haruspexlaw13.QueryRenamed", spec := "queryRenamed", unfollowed := true, recurses := true, loops := true, apart := false, narrowed := true }
def QueryRenamedUptoSaid : Prop := queryRenamedUptoRow.holds Try.pinned (OpenSpec.upto queryRenamedSpec)

end Rows
end Go.Proofs.Ytjbfemmnhnomaaa
