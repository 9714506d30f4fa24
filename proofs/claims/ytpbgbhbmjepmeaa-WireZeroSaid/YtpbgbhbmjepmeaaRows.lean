/-
  NARROWER THAN 'FOR EVERY INPUT', by the rows' own cells (each row's printed sentence says how): PatRenames: loops · PatParts: loops · PatRenamed: loops · PatTells: loops.
  DERIVED. THE GIVEN ROWS OF THIS SEAT. 11 by the template 'for every input the law returns true; each argument reads behind the call as it read before'; 0 by the template 'total and deterministic' (their statements: YtpbgbhbmjepmeaaTotals.lean).
  GIVEN WITH THE SEED: the statements are not yours to turn. If you find one false, say at which input.
  Laid BY PROGRAM, IN A SANDBOX (cutbox-rows.mjs): the forced cells as the released guide's own fill.sh prints them over the translation 2f176b87dc963b2a… (all of the seat's roots in one cut). By AI agents, Wed Nov 11 2026. No macro, syntax, notation, axiom, sorry.
-/
import Derived.Test.YtpbgbhbmjepmeaaChecked
import GoSem.Claim
import GoSem.ClaimJoined
import GoSem.ClaimMapViews
import Derived.JoinedTies
import Derived.KernelRfl
namespace Go.Proofs.Ytpbgbhbmjepmeaa
/- THE CELL 'sum', in the pinned program and in every row, IS THE sha256 OF THE DUMP (.gsa) THAT YtpbgbhbmjepmeaaProg.lean LOADS. Nothing in Lean hashes anything: it is a label: what it is worth is what the hold of that sum in a sandbox is worth. -/
noncomputable def Try.pinned : Pinned := { name := "ytpbgbhbmjepmeaa", sum := "2f176b87dc963b2adf0d11a537b1fcf13c3c21f05b073b77205d4c2c85d25809", checked := Try.checked }
namespace Rows
def none {H : Type} : Left H := { results := [], args := [] }

/-- 'haruspexlaw12.PatRenames': WHATEVER THE INPUT: true; the input reads as it did. -/
def patRenamesSpec : ChangeSpec := { name := "patRenames", fn := fun _ => fun
  | [d1, d2, d3] => { results := [.lit (.bool true)], args := [d1, d2, d3] }
  | _ => none }
def patRenamesRow : OpenClaim := { program := "ytpbgbhbmjepmeaa", sum := "2f176b87dc963b2adf0d11a537b1fcf13c3c21f05b073b77205d4c2c85d25809", func := "haruspex/haruspexlaw12.PatRenames", spec := "patRenames", unfollowed := true, recurses := true, loops := true, apart := false }
def PatRenamesSaid : Prop := patRenamesRow.holds Try.pinned (OpenSpec.ofChange patRenamesSpec)

/-- ITS FALSE NEIGHBOUR: 'it returns false'. Refute it at one input. -/
def patRenamesWrong : ChangeSpec := { name := "patRenames", fn := fun _ => fun
  | [d1, d2, d3] => { results := [.lit (.bool false)], args := [d1, d2, d3] }
  | _ => none }
def PatRenamesWrongFalsely : Prop := patRenamesRow.holds Try.pinned (OpenSpec.ofChange patRenamesWrong)

/-- 'haruspexlaw06.ValueOrder': WHATEVER THE INPUT: true; the input reads as it did. -/
def valueOrderSpec : ChangeSpec := { name := "valueOrder", fn := fun _ => fun
  | [d1, d2, d3] => { results := [.lit (.bool true)], args := [d1, d2, d3] }
  | _ => none }
def valueOrderRow : OpenClaim := { program := "ytpbgbhbmjepmeaa", sum := "2f176b87dc963b2adf0d11a537b1fcf13c3c21f05b073b77205d4c2c85d25809", func := "haruspex/haruspexlaw06.ValueOrder", spec := "valueOrder", apart := false }
def ValueOrderSaid : Prop := valueOrderRow.holds Try.pinned (OpenSpec.ofChange valueOrderSpec)

/-- ITS FALSE NEIGHBOUR: 'it returns false'. Refute it at one input. -/
def valueOrderWrong : ChangeSpec := { name := "valueOrder", fn := fun _ => fun
  | [d1, d2, d3] => { results := [.lit (.bool false)], args := [d1, d2, d3] }
  | _ => none }
def ValueOrderWrongFalsely : Prop := valueOrderRow.holds Try.pinned (OpenSpec.ofChange valueOrderWrong)

/-- 'haruspexlaw02.WireWrites': WHATEVER THE INPUT: true; the input reads as it did. -/
def wireWritesSpec : ChangeSpec := { name := "wireWrites", fn := fun _ => fun
  | [d1, d2, d3, d4] => { results := [.lit (.bool true)], args := [d1, d2, d3, d4] }
  | _ => none }
def wireWritesRow : OpenClaim := { program := "ytpbgbhbmjepmeaa", sum := "2f176b87dc963b2adf0d11a537b1fcf13c3c21f05b073b77205d4c2c85d25809", func := "haruspex/haruspexlaw02.WireWrites", spec := "wireWrites", apart := false }
def WireWritesSaid : Prop := wireWritesRow.holds Try.pinned (OpenSpec.ofChange wireWritesSpec)

/-- ITS FALSE NEIGHBOUR: 'it returns false'. Refute it at one input. -/
def wireWritesWrong : ChangeSpec := { name := "wireWrites", fn := fun _ => fun
  | [d1, d2, d3, d4] => { results := [.lit (.bool false)], args := [d1, d2, d3, d4] }
  | _ => none }
def WireWritesWrongFalsely : Prop := wireWritesRow.holds Try.pinned (OpenSpec.ofChange wireWritesWrong)

/-- 'haruspexlaw06.ValueTells': WHATEVER THE INPUT: true; the input reads as it did. -/
def valueTellsSpec : ChangeSpec := { name := "valueTells", fn := fun _ => fun
  | [d1, d2, d3, d4] => { results := [.lit (.bool true)], args := [d1, d2, d3, d4] }
  | _ => none }
def valueTellsRow : OpenClaim := { program := "ytpbgbhbmjepmeaa", sum := "2f176b87dc963b2adf0d11a537b1fcf13c3c21f05b073b77205d4c2c85d25809", func := "haruspex/haruspexlaw06.ValueTells", spec := "valueTells", recurses := true, apart := false }
def ValueTellsSaid : Prop := valueTellsRow.holds Try.pinned (OpenSpec.ofChange valueTellsSpec)

/-- ITS FALSE NEIGHBOUR: 'it returns false'. Refute it at one input. -/
def valueTellsWrong : ChangeSpec := { name := "valueTells", fn := fun _ => fun
  | [d1, d2, d3, d4] => { results := [.lit (.bool false)], args := [d1, d2, d3, d4] }
  | _ => none }
def ValueTellsWrongFalsely : Prop := valueTellsRow.holds Try.pinned (OpenSpec.ofChange valueTellsWrong)

/-- 'haruspexlaw02.WireZero': WHATEVER THE INPUT: true; the input reads as it did. -/
def wireZeroSpec : ChangeSpec := { name := "wireZero", fn := fun _ => fun
  | [d] => { results := [.lit (.bool true)], args := [d] }
  | _ => none }
def wireZeroRow : OpenClaim := { program := "ytpbgbhbmjepmeaa", sum := "2f176b87dc963b2adf0d11a537b1fcf13c3c21f05b073b77205d4c2c85d25809", func := "haruspex/haruspexlaw02.WireZero", spec := "wireZero", apart := false }
def WireZeroSaid : Prop := wireZeroRow.holds Try.pinned (OpenSpec.ofChange wireZeroSpec)

/-- ITS FALSE NEIGHBOUR: 'it returns false'. Refute it at one input. -/
def wireZeroWrong : ChangeSpec := { name := "wireZero", fn := fun _ => fun
  | [d] => { results := [.lit (.bool false)], args := [d] }
  | _ => none }
def WireZeroWrongFalsely : Prop := wireZeroRow.holds Try.pinned (OpenSpec.ofChange wireZeroWrong)

/-- 'haruspexlaw02.WireBack': WHATEVER THE INPUT: true; the input reads as it did. -/
def wireBackSpec : ChangeSpec := { name := "wireBack", fn := fun _ => fun
  | [d1, d2, d3] => { results := [.lit (.bool true)], args := [d1, d2, d3] }
  | _ => none }
def wireBackRow : OpenClaim := { program := "ytpbgbhbmjepmeaa", sum := "2f176b87dc963b2adf0d11a537b1fcf13c3c21f05b073b77205d4c2c85d25809", func := "haruspex/haruspexlaw02.WireBack", spec := "wireBack", apart := false }
def WireBackSaid : Prop := wireBackRow.holds Try.pinned (OpenSpec.ofChange wireBackSpec)

/-- ITS FALSE NEIGHBOUR: 'it returns false'. Refute it at one input. -/
def wireBackWrong : ChangeSpec := { name := "wireBack", fn := fun _ => fun
  | [d1, d2, d3] => { results := [.lit (.bool false)], args := [d1, d2, d3] }
  | _ => none }
def WireBackWrongFalsely : Prop := wireBackRow.holds Try.pinned (OpenSpec.ofChange wireBackWrong)

/-- 'haruspexlaw12.PatParts': WHATEVER THE INPUT: true; the input reads as it did. -/
def patPartsSpec : ChangeSpec := { name := "patParts", fn := fun _ => fun
  | [d1, d2] => { results := [.lit (.bool true)], args := [d1, d2] }
  | _ => none }
def patPartsRow : OpenClaim := { program := "ytpbgbhbmjepmeaa", sum := "2f176b87dc963b2adf0d11a537b1fcf13c3c21f05b073b77205d4c2c85d25809", func := "haruspex/haruspexlaw12.PatParts", spec := "patParts", unfollowed := true, recurses := true, loops := true, apart := false }
def PatPartsSaid : Prop := patPartsRow.holds Try.pinned (OpenSpec.ofChange patPartsSpec)

/-- ITS FALSE NEIGHBOUR: 'it returns false'. Refute it at one input. -/
def patPartsWrong : ChangeSpec := { name := "patParts", fn := fun _ => fun
  | [d1, d2] => { results := [.lit (.bool false)], args := [d1, d2] }
  | _ => none }
def PatPartsWrongFalsely : Prop := patPartsRow.holds Try.pinned (OpenSpec.ofChange patPartsWrong)

/-- 'haruspexlaw12.PatRenamed': WHATEVER THE INPUT: true; the input reads as it did. -/
def patRenamedSpec : ChangeSpec := { name := "patRenamed", fn := fun _ => fun
  | [d1, d2, d3] => { results := [.lit (.bool true)], args := [d1, d2, d3] }
  | _ => none }
def patRenamedRow : OpenClaim := { program := "ytpbgbhbmjepmeaa", sum := "2f176b87dc963b2adf0d11a537b1fcf13c3c21f05b073b77205d4c2c85d25809", func := "haruspex/haruspexlaw12.PatRenamed", spec := "patRenamed", unfollowed := true, recurses := true, loops := true, apart := false }
def PatRenamedSaid : Prop := patRenamedRow.holds Try.pinned (OpenSpec.ofChange patRenamedSpec)

/-- ITS FALSE NEIGHBOUR: 'it returns false'. Refute it at one input. -/
def patRenamedWrong : ChangeSpec := { name := "patRenamed", fn := fun _ => fun
  | [d1, d2, d3] => { results := [.lit (.bool false)], args := [d1, d2, d3] }
  | _ => none }
def PatRenamedWrongFalsely : Prop := patRenamedRow.holds Try.pinned (OpenSpec.ofChange patRenamedWrong)

/-- 'haruspexlaw12.PatTells': WHATEVER THE INPUT: true; the input reads as it did. -/
def patTellsSpec : ChangeSpec := { name := "patTells", fn := fun _ => fun
  | [d1, d2, d3] => { results := [.lit (.bool true)], args := [d1, d2, d3] }
  | _ => none }
def patTellsRow : OpenClaim := { program := "ytpbgbhbmjepmeaa", sum := "2f176b87dc963b2adf0d11a537b1fcf13c3c21f05b073b77205d4c2c85d25809", func := "haruspex/haruspexlaw12.PatTells", spec := "patTells", unfollowed := true, recurses := true, loops := true, apart := false }
def PatTellsSaid : Prop := patTellsRow.holds Try.pinned (OpenSpec.ofChange patTellsSpec)

/-- ITS FALSE NEIGHBOUR: 'it returns false'. Refute it at one input. -/
def patTellsWrong : ChangeSpec := { name := "patTells", fn := fun _ => fun
  | [d1, d2, d3] => { results := [.lit (.bool false)], args := [d1, d2, d3] }
  | _ => none }
def PatTellsWrongFalsely : Prop := patTellsRow.holds Try.pinned (OpenSpec.ofChange patTellsWrong)

/-- 'haruspexlaw06.ValueBytes': WHATEVER THE INPUT: true; the input reads as it did. -/
def valueBytesSpec : ChangeSpec := { name := "valueBytes", fn := fun _ => fun
  | [d1, d2, d3] => { results := [.lit (.bool true)], args := [d1, d2, d3] }
  | _ => none }
def valueBytesRow : OpenClaim := { program := "ytpbgbhbmjepmeaa", sum := "2f176b87dc963b2adf0d11a537b1fcf13c3c21f05b073b77205d4c2c85d25809", func := "haruspex/haruspexlaw06.ValueBytes", spec := "valueBytes", apart := false }
def ValueBytesSaid : Prop := valueBytesRow.holds Try.pinned (OpenSpec.ofChange valueBytesSpec)

/-- ITS FALSE NEIGHBOUR: 'it returns false'. Refute it at one input. -/
def valueBytesWrong : ChangeSpec := { name := "valueBytes", fn := fun _ => fun
  | [d1, d2, d3] => { results := [.lit (.bool false)], args := [d1, d2, d3] }
  | _ => none }
def ValueBytesWrongFalsely : Prop := valueBytesRow.holds Try.pinned (OpenSpec.ofChange valueBytesWrong)

/-- 'haruspexlaw06.ValueBack': WHATEVER THE INPUT: true; the input reads as it did. -/
def valueBackSpec : ChangeSpec := { name := "valueBack", fn := fun _ => fun
  | [d1, d2] => { results := [.lit (.bool true)], args := [d1, d2] }
  | _ => none }
def valueBackRow : OpenClaim := { program := "ytpbgbhbmjepmeaa", sum := "2f176b87dc963b2adf0d11a537b1fcf13c3c21f05b073b77205d4c2c85d25809", func := "haruspex/haruspexlaw06.ValueBack", spec := "valueBack", apart := false }
def ValueBackSaid : Prop := valueBackRow.holds Try.pinned (OpenSpec.ofChange valueBackSpec)

/-- ITS FALSE NEIGHBOUR: 'it returns false'. Refute it at one input. -/
def valueBackWrong : ChangeSpec := { name := "valueBack", fn := fun _ => fun
  | [d1, d2] => { results := [.lit (.bool false)], args := [d1, d2] }
  | _ => none }
def ValueBackWrongFalsely : Prop := valueBackRow.holds Try.pinned (OpenSpec.ofChange valueBackWrong)

/- THE SECOND FORM. 'bulk': how many values and letters a reading holds, each counted each time it is reached (what is shared counts as often as it is met; a slice's spare places count too). A statement '..UptoSaid' is the law's where the arguments, and the package variables that the reading takes, are together of bulk at most 1048576: NARROWER than '..Said'. Prove '..Said' where nothing that the law and all that it calls make is longer than what came in: it says more and counts as full. Else prove '..UptoSaid'. A law counts once. -/
mutual
def uptoBulk {H : Type} : DataW H → Nat
  | .lit (.string bytes) => bytes.length + 1
  | .lit _ => 1
  | .nil => 1
  | .ptr d => uptoBulk d + 1
  | .slice elems spare => uptoBulkAll elems + uptoBulkAll spare + 1
  | .agg parts => uptoBulkAll parts + 1
  | .iface _ d => uptoBulk d + 1
  | .map entries => uptoBulkEntries entries + 1
  | .held _ => 1
def uptoBulkAll {H : Type} : List (DataW H) → Nat
  | [] => 0
  | d :: r => uptoBulk d + uptoBulkAll r
def uptoBulkEntries {H : Type} : List (Lit × DataW H) → Nat
  | [] => 0
  | x :: r => uptoBulkEntry x + uptoBulkEntries r
def uptoBulkEntry {H : Type} : Lit × DataW H → Nat
  | (.string bytes, d) => bytes.length + uptoBulk d + 1
  | (_, d) => uptoBulk d + 1
 end
def uptoSmall : (H : Type) → List (DataW H) → Bool := fun _ ds => decide (uptoBulkAll ds ≤ 1048576)
def OpenSpec.upto (s : _root_.Go.ChangeSpec) : _root_.Go.OpenSpec := { _root_.Go.OpenSpec.ofChange s with cond := some uptoSmall }

/-- 'haruspexlaw12.PatRenames', WHERE WHAT IT READS IS OF BULK AT MOST 1048576: true; the input reads as it did. -/
def patRenamesUptoRow : OpenClaim := { program := "ytpbgbhbmjepmeaa", sum := "2f176b87dc963b2adf0d11a537b1fcf13c3c21f05b073b77205d4c2c85d25809", func := "haruspex/haruspexlaw12.PatRenames", spec := "patRenames", unfollowed := true, recurses := true, loops := true, apart := false, narrowed := true }
def PatRenamesUptoSaid : Prop := patRenamesUptoRow.holds Try.pinned (OpenSpec.upto patRenamesSpec)

/-- 'haruspexlaw06.ValueOrder', WHERE WHAT IT READS IS OF BULK AT MOST 1048576: true; the input reads as it did. -/
def valueOrderUptoRow : OpenClaim := { program := "ytpbgbhbmjepmeaa", sum := "2f176b87dc963b2adf0d11a537b1fcf13c3c21f05b073b77205d4c2c85d25809", func := "haruspex/haruspexlaw06.ValueOrder", spec := "valueOrder", apart := false, narrowed := true }
def ValueOrderUptoSaid : Prop := valueOrderUptoRow.holds Try.pinned (OpenSpec.upto valueOrderSpec)

/-- 'haruspexlaw02.WireWrites', WHERE WHAT IT READS IS OF BULK AT MOST 1048576: true; the input reads as it did. -/
def wireWritesUptoRow : OpenClaim := { program := "ytpbgbhbmjepmeaa", sum := "2f176b87dc963b2adf0d11a537b1fcf13c3c21f05b073b77205d4c2c85d25809", func := "haruspex/haruspexlaw02.WireWrites", spec := "wireWrites", apart := false, narrowed := true }
def WireWritesUptoSaid : Prop := wireWritesUptoRow.holds Try.pinned (OpenSpec.upto wireWritesSpec)

/-- 'haruspexlaw06.ValueTells', WHERE WHAT IT READS IS OF BULK AT MOST 1048576: true; the input reads as it did. -/
def valueTellsUptoRow : OpenClaim := { program := "ytpbgbhbmjepmeaa", sum := "2f176b87dc963b2adf0d11a537b1fcf13c3c21f05b073b77205d4c2c85d25809", func := "haruspex/haruspexlaw06.ValueTells", spec := "valueTells", recurses := true, apart := false, narrowed := true }
def ValueTellsUptoSaid : Prop := valueTellsUptoRow.holds Try.pinned (OpenSpec.upto valueTellsSpec)

/-- 'haruspexlaw02.WireZero', WHERE WHAT IT READS IS OF BULK AT MOST 1048576: true; the input reads as it did. -/
def wireZeroUptoRow : OpenClaim := { program := "ytpbgbhbmjepmeaa", sum := "2f176b87dc963b2adf0d11a537b1fcf13c3c21f05b073b77205d4c2c85d25809", func := "haruspex/haruspexlaw02.WireZero", spec := "wireZero", apart := false, narrowed := true }
def WireZeroUptoSaid : Prop := wireZeroUptoRow.holds Try.pinned (OpenSpec.upto wireZeroSpec)

/-- 'haruspexlaw02.WireBack', WHERE WHAT IT READS IS OF BULK AT MOST 1048576: true; the input reads as it did. -/
def wireBackUptoRow : OpenClaim := { program := "ytpbgbhbmjepmeaa", sum := "2f176b87dc963b2adf0d11a537b1fcf13c3c21f05b073b77205d4c2c85d25809", func := "haruspex/haruspexlaw02.WireBack", spec := "wireBack", apart := false, narrowed := true }
def WireBackUptoSaid : Prop := wireBackUptoRow.holds Try.pinned (OpenSpec.upto wireBackSpec)

/-- 'haruspexlaw12.PatParts', WHERE WHAT IT READS IS OF BULK AT MOST 1048576: true; the input reads as it did. -/
def patPartsUptoRow : OpenClaim := { program := "ytpbgbhbmjepmeaa", sum := "2f176b87dc963b2adf0d11a537b1fcf13c3c21f05b073b77205d4c2c85d25809", func := "haruspex/haruspexlaw12.PatParts", spec := "patParts", unfollowed := true, recurses := true, loops := true, apart := false, narrowed := true }
def PatPartsUptoSaid : Prop := patPartsUptoRow.holds Try.pinned (OpenSpec.upto patPartsSpec)

/-- 'haruspexlaw12.PatRenamed', WHERE WHAT IT READS IS OF BULK AT MOST 1048576: true; the input reads as it did. -/
def patRenamedUptoRow : OpenClaim := { program := "ytpbgbhbmjepmeaa", sum := "2f176b87dc963b2adf0d11a537b1fcf13c3c21f05b073b77205d4c2c85d25809", func := "haruspex/haruspexlaw12.PatRenamed", spec := "patRenamed", unfollowed := true, recurses := true, loops := true, apart := false, narrowed := true }
def PatRenamedUptoSaid : Prop := patRenamedUptoRow.holds Try.pinned (OpenSpec.upto patRenamedSpec)

/-- 'haruspexlaw12.PatTells', WHERE WHAT IT READS IS OF BULK AT MOST 1048576: true; the input reads as it did. -/
def patTellsUptoRow : OpenClaim := { program := "ytpbgbhbmjepmeaa", sum := "2f176b87dc963b2adf0d11a537b1fcf13c3c21f05b073b77205d4c2c85d25809", func := "haruspex/haruspexlaw12.PatTells", spec := "patTells", unfollowed := true, recurses := true, loops := true, apart := false, narrowed := true }
def PatTellsUptoSaid : Prop := patTellsUptoRow.holds Try.pinned (OpenSpec.upto patTellsSpec)

/-- 'haruspexlaw06.ValueBytes', WHERE WHAT IT READS IS OF BULK AT MOST 1048576: true; the input reads as it did. -/
def valueBytesUptoRow : OpenClaim := { program := "ytpbgbhbmjepmeaa", sum := "2f176b87dc963b2adf0d11a537b1fcf13c3c21f05b073b77205d4c2c85d25809", func := "haruspex/haruspexlaw06.ValueBytes", spec := "valueBytes", apart := false, narrowed := true }
def ValueBytesUptoSaid : Prop := valueBytesUptoRow.holds Try.pinned (OpenSpec.upto valueBytesSpec)

/-- 'haruspexlaw06.ValueBack', WHERE WHAT IT READS IS OF BULK AT MOST 1048576: true; the input reads as it did. -/
def valueBackUptoRow : OpenClaim := { program := "ytpbgbhbmjepmeaa", sum := "2f176b87dc963b2adf0d11a537b1fcf13c3c21f05b073b77205d4c2c85d25809", func := "haruspex/haruspexlaw06.ValueBack", spec := "valueBack", apart := false, narrowed := true }
def ValueBackUptoSaid : Prop := valueBackUptoRow.holds Try.pinned (OpenSpec.upto valueBackSpec)

end Rows
end Go.Proofs.Ytpbgbhbmjepmeaa
