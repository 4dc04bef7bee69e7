/-
  No cell of these rows narrows 'for every input' (looked for: loops, veiled, ifaces, maps, wideKeys, modest, calm, conditions, laid).
  DERIVED. THE GIVEN ROWS OF THIS SEAT. 3 by the template 'for every input the law returns true; each argument reads behind the call as it read before'; 0 by the template 'total and deterministic' (their statements: YtpgeohigdblooaaTotals.lean).
  GIVEN WITH THE SEED: the statements are not yours to turn. If you find one false, say at which input.
  Laid BY PROGRAM, IN A SANDBOX (cutbox-rows.mjs): the forced cells as the released guide's own fill.sh prints them over the translation 79f57f83cfeaee0d… (all of the seat's roots in one cut). By AI agents, Wed Nov 11 2026. No macro, syntax, notation, axiom, sorry.
-/
import Derived.Test.YtpgeohigdblooaaChecked
import GoSem.Claim
import GoSem.ClaimJoined
import GoSem.ClaimMapViews
import Derived.JoinedTies
import Derived.KernelRfl
namespace Go.Proofs.Ytpgeohigdblooaa
/- THE CELL 'sum', in the pinned program and in every row, IS THE sha256 OF THE DUMP (.gsa) THAT YtpgeohigdblooaaProg.lean LOADS. Nothing in Lean hashes anything: it is a label: what it is worth is what the hold of that sum in a sandbox is worth. -/
noncomputable def Try.pinned : Pinned := { name := "ytpgeohigdblooaa", sum := "79f57f83cfeaee0d99dfaa0d821c6f97411b58a18e7d36c4fb590e4762b8a476", checked := Try.checked }
namespace Rows
def none {H : Type} : Left H := { results := [], args := [] }

/-- 'wayfarerlaw12.WidthParts': WHATEVER THE INPUT: true; the input reads as it did. -/
def widthPartsSpec : ChangeSpec := { name := "widthParts", fn := fun _ => fun
  | [d1, d2] => { results := [.lit (.bool true)], args := [d1, d2] }
  | _ => none }
def widthPartsRow : OpenClaim := { program := "ytpgeohigdblooaa", sum := "79f57f83cfeaee0d99dfaa0d821c6f97411b58a18e7d36c4fb590e4762b8a476", func := "wayfarer/wayfarerlaw12.WidthParts", spec := "widthParts", apart := false }
def WidthPartsSaid : Prop := widthPartsRow.holds Try.pinned (OpenSpec.ofChange widthPartsSpec)

/-- ITS FALSE NEIGHBOUR: 'it returns false'. Refute it at one input. -/
def widthPartsWrong : ChangeSpec := { name := "widthParts", fn := fun _ => fun
  | [d1, d2] => { results := [.lit (.bool false)], args := [d1, d2] }
  | _ => none }
def WidthPartsWrongFalsely : Prop := widthPartsRow.holds Try.pinned (OpenSpec.ofChange widthPartsWrong)

/-- 'wayfarerlaw12.WidthOf': WHATEVER THE INPUT: true; the input reads as it did. -/
def widthOfSpec : ChangeSpec := { name := "widthOf", fn := fun _ => fun
  | [d1, d2] => { results := [.lit (.bool true)], args := [d1, d2] }
  | _ => none }
def widthOfRow : OpenClaim := { program := "ytpgeohigdblooaa", sum := "79f57f83cfeaee0d99dfaa0d821c6f97411b58a18e7d36c4fb590e4762b8a476", func := "wayfarer/wayfarerlaw12.WidthOf", spec := "widthOf", unfollowed := true, recurses := true, apart := false }
def WidthOfSaid : Prop := widthOfRow.holds Try.pinned (OpenSpec.ofChange widthOfSpec)

/-- ITS FALSE NEIGHBOUR: 'it returns false'. Refute it at one input. -/
def widthOfWrong : ChangeSpec := { name := "widthOf", fn := fun _ => fun
  | [d1, d2] => { results := [.lit (.bool false)], args := [d1, d2] }
  | _ => none }
def WidthOfWrongFalsely : Prop := widthOfRow.holds Try.pinned (OpenSpec.ofChange widthOfWrong)

/-- 'wayfarerlaw12.WidthTables': WHATEVER THE INPUT: true; the input reads as it did. -/
def widthTablesSpec : ChangeSpec := { name := "widthTables", fn := fun _ => fun
  | [d1, d2] => { results := [.lit (.bool true)], args := [d1, d2] }
  | _ => none }
def widthTablesRow : OpenClaim := { program := "ytpgeohigdblooaa", sum := "79f57f83cfeaee0d99dfaa0d821c6f97411b58a18e7d36c4fb590e4762b8a476", func := "wayfarer/wayfarerlaw12.WidthTables", spec := "widthTables", unfollowed := true, recurses := true, apart := false }
def WidthTablesSaid : Prop := widthTablesRow.holds Try.pinned (OpenSpec.ofChange widthTablesSpec)

/-- ITS FALSE NEIGHBOUR: 'it returns false'. Refute it at one input. -/
def widthTablesWrong : ChangeSpec := { name := "widthTables", fn := fun _ => fun
  | [d1, d2] => { results := [.lit (.bool false)], args := [d1, d2] }
  | _ => none }
def WidthTablesWrongFalsely : Prop := widthTablesRow.holds Try.pinned (OpenSpec.ofChange widthTablesWrong)

/- THE SECOND FORM. 'bulk': how many values and letters a reading holds, each counted each time it is reached (what is shared counts as often as it is met; a slice's spare places count too). A statement '..UptoSaid' is the law's where the arguments, and the package variables that the reading takes, are together of bulk at most 1048576: NARROWER than '..Said'. Prove '..Said' where nothing that the law and all that it calls make is longer than what came in: it says more and counts as full. Else prove '..UptoSaid'. A law counts once. -/
mutual
def uptoBulk {H : Type} : DataW H → Nat
  | .lit (.string bytes) => bytes.length + 1
  | .lit _ => 1
  | .nil => 1
  | .ptr d => uptoBulk d + 1
  | .slice elems spare => uptoBulkAll elems + uptoBulkAll spare + 1
  | .agg parts => uptoBulkAll parts + 1
  | .iface _ d => uptoBulk d + 1
  | .map entries => uptoBulkEntries entries + 1
  | .held _ => 1
def uptoBulkAll {H : Type} : List (DataW H) → Nat
  | [] => 0
  | d :: r => uptoBulk d + uptoBulkAll r
def uptoBulkEntries {H : Type} : List (Lit × DataW H) → Nat
  | [] => 0
  | x :: r => uptoBulkEntry x + uptoBulkEntries r
def uptoBulkEntry {H : Type} : Lit × DataW H → Nat
  | (.string bytes, d) => bytes.length + uptoBulk d + 1
  | (_, d) => uptoBulk d + 1
 end
def uptoSmall : (H : Type) → List (DataW H) → Bool := fun _ ds => decide (uptoBulkAll ds ≤ 1048576)
def OpenSpec.upto (s : _root_.Go.ChangeSpec) : _root_.Go.OpenSpec := { _root_.Go.OpenSpec.ofChange s with cond := some uptoSmall }

/-- 'wayfarerlaw12.WidthParts', WHERE WHAT IT READS IS OF BULK AT MOST 1048576: true; the input reads as it did. -/
def widthPartsUptoRow : OpenClaim := { program := "ytpgeohigdblooaa", sum := "79f57f83cfeaee0d99dfaa0d821c6f97411b58a18e7d36c4fb590e4762b8a476", func := "wayfarer/wayfarerlaw12.WidthParts", spec := "widthParts", apart := false, narrowed := true }
def WidthPartsUptoSaid : Prop := widthPartsUptoRow.holds Try.pinned (OpenSpec.upto widthPartsSpec)

/-- 'wayfarerlaw12.WidthOf', WHERE WHAT IT READS IS OF BULK AT MOST 1048576: true; the input reads as it did. -/
def widthOfUptoRow : OpenClaim := { program := "ytpgeohigdblooaa", sum := "79f57f83cfeaee0d99dfaa0d821c6f97411b58a18e7d36c4fb590e4762b8a476", func := "wayfarer/wayfarerlaw12.WidthOf", spec := "widthOf", unfollowed := true, recurses := true, apart := false, narrowed := true }
def WidthOfUptoSaid : Prop := widthOfUptoRow.holds Try.pinned (OpenSpec.upto widthOfSpec)

/-- 'wayfarerlaw12.WidthTables', WHERE WHAT IT READS IS OF BULK AT MOST 1048576: true; the input reads as it did. -/
def widthTablesUptoRow : OpenClaim := { program := "ytpgeohigdblooaa", sum := "79f57f83cfeaee0d99dfaa0d821c6f97411b58a18e7d36c4fb590e4762b8a476", func := "wayfarer/wayfarerlaw12.WidthTables", spec := "widthTables", unfollowed := true, recurses := true, apart := false, narrowed := true }
def WidthTablesUptoSaid : Prop := widthTablesUptoRow.holds Try.pinned (OpenSpec.upto widthTablesSpec)

end Rows
end Go.Proofs.Ytpgeohigdblooaa
