/-
  No cell of these rows narrows 'for every input' (looked for: loops, veiled, ifaces, maps, wideKeys, modest, calm, conditions, laid).
  DERIVED. THE GIVEN ROWS OF THIS SEAT. 5 by the template 'for every input the law returns true; each argument reads behind the call as it read before'; 0 by the template 'total and deterministic' (their statements: YtpkhhaolkfaoaaaTotals.lean).
  GIVEN WITH THE SEED: the statements are not yours to turn. If you find one false, say at which input.
  Laid BY PROGRAM, IN A SANDBOX (cutbox-rows.mjs): the forced cells as the released guide's own fill.sh prints them over the translation ef72e85630274dd2… (all of the seat's roots in one cut). By AI agents, Wed Nov 11 2026. No macro, syntax, notation, axiom, sorry.
-/
import Derived.Test.YtpkhhaolkfaoaaaChecked
import GoSem.Claim
import GoSem.ClaimJoined
import GoSem.ClaimMapViews
import Derived.JoinedTies
import Derived.KernelRfl
namespace Go.Proofs.Ytpkhhaolkfaoaaa
/- THE CELL 'sum', in the pinned program and in every row, IS THE sha256 OF THE DUMP (.gsa) THAT YtpkhhaolkfaoaaaProg.lean LOADS. Nothing in Lean hashes anything: it is a label: what it is worth is what the hold of that sum in a sandbox is worth. -/
noncomputable def Try.pinned : Pinned := { name := "ytpkhhaolkfaoaaa", sum := "ef72e85630274dd2f5db065d3226b68f71a011101014326207361b694f5d7f24", checked := Try.checked }
namespace Rows
def none {H : Type} : Left H := { results := [], args := [] }

/-- 'haruspexlaw07.SchemaBook': WHATEVER THE INPUT: true; the input reads as it did. -/
def schemaBookSpec : ChangeSpec := { name := "schemaBook", fn := fun _ => fun
  | [d] => { results := [.lit (.bool true)], args := [d] }
  | _ => none }
def schemaBookRow : OpenClaim := { program := "ytpkhhaolkfaoaaa", sum := "ef72e85630274dd2f5db065d3226b68f71a011101014326207361b694f5d7f24", func := "haruspex/haruspexlaw07.SchemaBook", spec := "schemaBook", unfollowed := true, recurses := true, apart := false }
def SchemaBookSaid : Prop := schemaBookRow.holds Try.pinned (OpenSpec.ofChange schemaBookSpec)

/-- ITS FALSE NEIGHBOUR: 'it returns false'. Refute it at one input. -/
def schemaBookWrong : ChangeSpec := { name := "schemaBook", fn := fun _ => fun
  | [d] => { results := [.lit (.bool false)], args := [d] }
  | _ => none }
def SchemaBookWrongFalsely : Prop := schemaBookRow.holds Try.pinned (OpenSpec.ofChange schemaBookWrong)

/-- 'haruspexlaw27.BindWays': WHATEVER THE INPUT: true; the input reads as it did. -/
def bindWaysSpec : ChangeSpec := { name := "bindWays", fn := fun _ => fun
  | [d1, d2] => { results := [.lit (.bool true)], args := [d1, d2] }
  | _ => none }
def bindWaysRow : OpenClaim := { program := "ytpkhhaolkfaoaaa", sum := "ef72e85630274dd2f5db065d3226b68f71a011101014326207361b694f5d7f24", func := "haruspex/haruspexlaw27.BindWays", spec := "bindWays", unfollowed := true, recurses := true, apart := false }
def BindWaysSaid : Prop := bindWaysRow.holds Try.pinned (OpenSpec.ofChange bindWaysSpec)

/-- ITS FALSE NEIGHBOUR: 'it returns false'. Refute it at one input. -/
def bindWaysWrong : ChangeSpec := { name := "bindWays", fn := fun _ => fun
  | [d1, d2] => { results := [.lit (.bool false)], args := [d1, d2] }
  | _ => none }
def BindWaysWrongFalsely : Prop := bindWaysRow.holds Try.pinned (OpenSpec.ofChange bindWaysWrong)

/-- 'haruspexlaw27.BindCounts': WHATEVER THE INPUT: true; the input reads as it did. -/
def bindCountsSpec : ChangeSpec := { name := "bindCounts", fn := fun _ => fun
  | [d1, d2] => { results := [.lit (.bool true)], args := [d1, d2] }
  | _ => none }
def bindCountsRow : OpenClaim := { program := "ytpkhhaolkfaoaaa", sum := "ef72e85630274dd2f5db065d3226b68f71a011101014326207361b694f5d7f24", func := "haruspex/haruspexlaw27.BindCounts", spec := "bindCounts", unfollowed := true, recurses := true, apart := false }
def BindCountsSaid : Prop := bindCountsRow.holds Try.pinned (OpenSpec.ofChange bindCountsSpec)

/-- ITS FALSE NEIGHBOUR: 'it returns false'. Refute it at one input. -/
def bindCountsWrong : ChangeSpec := { name := "bindCounts", fn := fun _ => fun
  | [d1, d2] => { results := [.lit (.bool false)], args := [d1, d2] }
  | _ => none }
def BindCountsWrongFalsely : Prop := bindCountsRow.holds Try.pinned (OpenSpec.ofChange bindCountsWrong)

/-- 'haruspexlaw07.SchemaTells': WHATEVER THE INPUT: true; the input reads as it did. -/
def schemaTellsSpec : ChangeSpec := { name := "schemaTells", fn := fun _ => fun
  | [d1, d2, d3] => { results := [.lit (.bool true)], args := [d1, d2, d3] }
  | _ => none }
def schemaTellsRow : OpenClaim := { program := "ytpkhhaolkfaoaaa", sum := "ef72e85630274dd2f5db065d3226b68f71a011101014326207361b694f5d7f24", func := "haruspex/haruspexlaw07.SchemaTells", spec := "schemaTells", unfollowed := true, recurses := true, apart := false }
def SchemaTellsSaid : Prop := schemaTellsRow.holds Try.pinned (OpenSpec.ofChange schemaTellsSpec)

/-- ITS FALSE NEIGHBOUR: 'it returns false'. Refute it at one input. -/
def schemaTellsWrong : ChangeSpec := { name := "schemaTells", fn := fun _ => fun
  | [d1, d2, d3] => { results := [.lit (.bool false)], args := [d1, d2, d3] }
  | _ => none }
def SchemaTellsWrongFalsely : Prop := schemaTellsRow.holds Try.pinned (OpenSpec.ofChange schemaTellsWrong)

/-- 'haruspexlaw07.SchemaBack': WHATEVER THE INPUT: true; the input reads as it did. -/
def schemaBackSpec : ChangeSpec := { name := "schemaBack", fn := fun _ => fun
  | [d1, d2] => { results := [.lit (.bool true)], args := [d1, d2] }
  | _ => none }
def schemaBackRow : OpenClaim := { program := "ytpkhhaolkfaoaaa", sum := "ef72e85630274dd2f5db065d3226b68f71a011101014326207361b694f5d7f24", func := "haruspex/haruspexlaw07.SchemaBack", spec := "schemaBack", unfollowed := true, recurses := true, apart := false }
def SchemaBackSaid : Prop := schemaBackRow.holds Try.pinned (OpenSpec.ofChange schemaBackSpec)

/-- ITS FALSE NEIGHBOUR: 'it returns false'. Refute it at one input. -/
def schemaBackWrong : ChangeSpec := { name := "schemaBack", fn := fun _ => fun
  | [d1, d2] => { results := [.lit (.bool false)], args := [d1, d2] }
  | _ => none }
def SchemaBackWrongFalsely : Prop := schemaBackRow.holds Try.pinned (OpenSpec.ofChange schemaBackWrong)

/- THE SECOND FORM. 'bulk': how many values and letters a reading holds, each counted each time it is reached (what is shared counts as often as it is met; a slice's spare places count too). A statement '..UptoSaid' is the law's where the arguments, and the package variables that the reading takes, are together of bulk at most 1048576: NARROWER than '..Said'. Prove '..Said' where nothing that the law and all that it calls make is longer than what came in: it says more and counts as full. Else prove '..UptoSaid'. A law counts once. -/
mutual
def uptoBulk {H : Type} : DataW H → Nat
  | .lit (.string bytes) => bytes.length + 1
  | .lit _ => 1
  | .nil => 1
  | .ptr d => uptoBulk d + 1
  | .slice elems spare => uptoBulkAll elems + uptoBulkAll spare + 1
  | .agg parts => uptoBulkAll parts + 1
  | .iface _ d => uptoBulk d + 1
  | .map entries => uptoBulkEntries entries + 1
  | .held _ => 1
def uptoBulkAll {H : Type} : List (DataW H) → Nat
  | [] => 0
  | d :: r => uptoBulk d + uptoBulkAll r
def uptoBulkEntries {H : Type} : List (Lit × DataW H) → Nat
  | [] => 0
  | x :: r => uptoBulkEntry x + uptoBulkEntries r
def uptoBulkEntry {H : Type} : Lit × DataW H → Nat
  | (.string bytes, d) => bytes.length + uptoBulk d + 1
  | (_, d) => uptoBulk d + 1
 end
def uptoSmall : (H : Type) → List (DataW H) → Bool := fun _ ds => decide (uptoBulkAll ds ≤ 1048576)
def OpenSpec.upto (s : _root_.Go.ChangeSpec) : _root_.Go.OpenSpec := { _root_.Go.OpenSpec.ofChange s with cond := some uptoSmall }

/-- 'haruspexlaw07.SchemaBook', WHERE WHAT IT READS IS OF BULK AT MOST 1048576: true; the input reads as it did. -/
def schemaBookUptoRow : OpenClaim := { program := "ytpkhhaolkfaoaaa", sum := "ef72e85630274dd2f5db065d3226b68f71a011101014326207361b694f5d7f24", func := "haruspex/haruspexlaw07.SchemaBook", spec := "schemaBook", unfollowed := true, recurses := true, apart := false, narrowed := true }
def SchemaBookUptoSaid : Prop := schemaBookUptoRow.holds Try.pinned (OpenSpec.upto schemaBookSpec)

/-- 'haruspexlaw27.BindWays', WHERE WHAT IT READS IS OF BULK AT MOST 1048576: true; the input reads as it did. -/
def bindWaysUptoRow : OpenClaim := { program := "ytpkhhaolkfaoaaa", sum := "ef72e85630274dd2f5db065d3226b68f71a011101014326207361b694f5d7f24", func := "haruspex/haruspexlaw27.BindWays", spec := "bindWays", unfollowed := true, recurses := true, apart := false, narrowed := true }
def BindWaysUptoSaid : Prop := bindWaysUptoRow.holds Try.pinned (OpenSpec.upto bindWaysSpec)

/-- 'haruspexlaw27.BindCounts', WHERE WHAT IT READS IS OF BULK AT MOST 1048576: true; the input reads as it did. -/
def bindCountsUptoRow : OpenClaim := { program := "ytpkhhaolkfaoaaa", sum := "ef72e85630274dd2f5db065d3226b68f71a011101014326207361b694f5d7f24", func := "haruspex/haruspexlaw27.BindCounts", spec := "bindCounts", unfollowed := true, recurses := true, apart := false, narrowed := true }
def BindCountsUptoSaid : Prop := bindCountsUptoRow.holds Try.pinned (OpenSpec.upto bindCountsSpec)

/-- 'haruspexlaw07.SchemaTells', WHERE WHAT IT READS IS OF BULK AT MOST 1048576: true; the input reads as it did. -/
def schemaTellsUptoRow : OpenClaim := { program := "ytpkhhaolkfaoaaa", sum := "ef72e85630274dd2f5db065d3226b68f71a011101014326207361b694f5d7f24", func := "haruspex/haruspexlaw07.SchemaTells", spec := "schemaTells", unfollowed := true, recurses := true, apart := false, narrowed := true }
def SchemaTellsUptoSaid : Prop := schemaTellsUptoRow.holds Try.pinned (OpenSpec.upto schemaTellsSpec)

/-- 'haruspexlaw07.SchemaBack', WHERE WHAT IT READS IS OF BULK AT MOST 1048576: true; the input reads as it did. -/
def schemaBackUptoRow : OpenClaim := { program := "ytpkhhaolkfaoaaa", sum := "ef72e85630274dd2f5db065d3226b68f71a011101014326207361b694f5d7f24", func := "haruspex/haruspexlaw07.SchemaBack", spec := "schemaBack", unfollowed := true, recurses := true, apart := false, narrowed := true }
def SchemaBackUptoSaid : Prop := schemaBackUptoRow.holds Try.pinned (OpenSpec.upto schemaBackSpec)

end Rows
end Go.Proofs.Ytpkhhaolkfaoaaa
