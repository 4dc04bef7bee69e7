/-
  No cell of these rows narrows 'for every input' (looked for: loops, veiled, ifaces, maps, wideKeys, modest, calm, conditions, laid).
  DERIVED. THE GIVEN ROWS OF THIS SEAT. 3 by the template 'for every input the law returns true; each argument reads behind the call as it read before'; 0 by the template 'total and deterministic' (their statements: YtlejmllacikmeaaTotals.lean).
  GIVEN WITH THE SEED: the statements are not yours to turn. If you find one false, say at which input.
  Laid BY PROGRAM, IN A SANDBOX (cutbox-rows.mjs): the forced cells as the released guide's own fill.sh prints them over the translation 6972bd9f52ef4cee… (all of the seat's roots in one cut). By AI agents, Wed Nov 11 2026. No macro, syntax, notation, axiom, sorry.
-/
import Derived.Test.YtlejmllacikmeaaChecked
import GoSem.Claim
import GoSem.ClaimJoined
import GoSem.ClaimMapViews
import Derived.JoinedTies
import Derived.KernelRfl
namespace Go.Proofs.Ytlejmllacikmeaa
/- THE CELL 'sum', in the pinned program and in every row, IS THE sha256 OF THE DUMP (.gsa) THAT YtlejmllacikmeaaProg.lean LOADS. Nothing in Lean hashes anything: it is a label: what it is worth is what the hold of that sum in a sandbox is worth. -/
noncomputable def Try.pinned : Pinned := { name := "ytlejmllacikmeaa", sum := "6972bd9f52ef4cee166c6b2303c07306f8d0e6952e67b86c7c484a49c9f2894a", checked := Try.checked }
namespace Rows
def none {H : Type} : Left H := { results := [], args := [] }

/-- 'wayfarerlaw14.CellStyles': WHATEVER THE INPUT: true; the input reads as it did. -/
def cellStylesSpec : ChangeSpec := { name := "cellStyles", fn := fun _ => fun
  | [d1, d2] => { results := [.lit (.bool true)], args := [d1, d2] }
  | _ => none }
def cellStylesRow : OpenClaim := { program := "ytlejmllacikmeaa", sum := "6972bd9f52ef4cee166c6b2303c07306f8d0e6952e67b86c7c484a49c9f2894a", func := "wayfarer/wayfarerlaw14.CellStyles", spec := "cellStyles", unfollowed := true, recurses := true, apart := false }
def CellStylesSaid : Prop := cellStylesRow.holds Try.pinned (OpenSpec.ofChange cellStylesSpec)

/-- ITS FALSE NEIGHBOUR: 'it returns false'. Refute it at one input. -/
def cellStylesWrong : ChangeSpec := { name := "cellStyles", fn := fun _ => fun
  | [d1, d2] => { results := [.lit (.bool false)], args := [d1, d2] }
  | _ => none }
def CellStylesWrongFalsely : Prop := cellStylesRow.holds Try.pinned (OpenSpec.ofChange cellStylesWrong)

/-- 'wayfarerlaw14.CellChanges': WHATEVER THE INPUT: true; the input reads as it did. -/
def cellChangesSpec : ChangeSpec := { name := "cellChanges", fn := fun _ => fun
  | [d1, d2] => { results := [.lit (.bool true)], args := [d1, d2] }
  | _ => none }
def cellChangesRow : OpenClaim := { program := "ytlejmllacikmeaa", sum := "6972bd9f52ef4cee166c6b2303c07306f8d0e6952e67b86c7c484a49c9f2894a", func := "wayfarer/wayfarerlaw14.CellChanges", spec := "cellChanges", unfollowed := true, recurses := true, apart := false }
def CellChangesSaid : Prop := cellChangesRow.holds Try.pinned (OpenSpec.ofChange cellChangesSpec)

/-- ITS FALSE NEIGHBOUR: 'it returns false'. Refute it at one input. -/
def cellChangesWrong : ChangeSpec := { name := "cellChanges", fn := fun _ => fun
  | [d1, d2] => { results := [.lit (.bool false)], args := [d1, d2] }
  | _ => none }
def CellChangesWrongFalsely : Prop := cellChangesRow.holds Try.pinned (OpenSpec.ofChange cellChangesWrong)

/-- 'wayfarerlaw14.CellStays': WHATEVER THE INPUT: true; the input reads as it did. -/
def cellStaysSpec : ChangeSpec := { name := "cellStays", fn := fun _ => fun
  | [d1, d2] => { results := [.lit (.bool true)], args := [d1, d2] }
  | _ => none }
def cellStaysRow : OpenClaim := { program := "ytlejmllacikmeaa", sum := "6972bd9f52ef4cee166c6b2303c07306f8d0e6952e67b86c7c484a49c9f2894a", func := "wayfarer/wayfarerlaw14.CellStays", spec := "cellStays", unfollowed := true, recurses := true, apart := false }
def CellStaysSaid : Prop := cellStaysRow.holds Try.pinned (OpenSpec.ofChange cellStaysSpec)

/-- ITS FALSE NEIGHBOUR: 'it returns false'. Refute it at one input. -/
def cellStaysWrong : ChangeSpec := { name := "cellStays", fn := fun _ => fun
  | [d1, d2] => { results := [.lit (.bool false)], args := [d1, d2] }
  | _ => none }
def CellStaysWrongFalsely : Prop := cellStaysRow.holds Try.pinned (OpenSpec.ofChange cellStaysWrong)

/- THE SECOND FORM. 'bulk': how many values and letters a reading holds, each counted each time it is reached (what is shared counts as often as it is met; a slice's spare places count too). A statement '..UptoSaid' is the law's where the arguments, and the package variables that the reading takes, are together of bulk at most 1048576: NARROWER than '..Said'. Prove '..Said' where nothing that the law and all that it calls make is longer than what came in: it says more and counts as full. Else prove '..UptoSaid'. A law counts once. -/
mutual
def uptoBulk {H : Type} : DataW H → Nat
  | .lit (.string bytes) => bytes.length + 1
  | .lit _ => 1
  | .nil => 1
  | .ptr d => uptoBulk d + 1
  | .slice elems spare => uptoBulkAll elems + uptoBulkAll spare + 1
  | .agg parts => uptoBulkAll parts + 1
  | .iface _ d => uptoBulk d + 1
  | .map entries => uptoBulkEntries entries + 1
  | .held _ => 1
def uptoBulkAll {H : Type} : List (DataW H) → Nat
  | [] => 0
  | d :: r => uptoBulk d + uptoBulkAll r
def uptoBulkEntries {H : Type} : List (Lit × DataW H) → Nat
  | [] => 0
  | x :: r => uptoBulkEntry x + uptoBulkEntries r
def uptoBulkEntry {H : Type} : Lit × DataW H → Nat
  | (.string bytes, d) => bytes.length + uptoBulk d + 1
  | (_, d) => uptoBulk d + 1
 end
def uptoSmall : (H : Type) → List (DataW H) → Bool := fun _ ds => decide (uptoBulkAll ds ≤ 1048576)
def OpenSpec.upto (s : _root_.Go.ChangeSpec) : _root_.Go.OpenSpec := { _root_.Go.OpenSpec.ofChange s with cond := some uptoSmall }

/-- 'wayfarerlaw14.CellStyles', WHERE WHAT IT READS IS OF BULK AT MOST 1048576: true; the input reads as it did. -/
def cellStylesUptoRow : OpenClaim := { program := "ytlejmllacikmeaa", sum := "6972bd9f52ef4cee166c6b2303c07306f8d0e6952e67b86c7c484a49c9f2894a", func := "wayfarer/wayfarerlaw14.CellStyles", spec := "cellStyles", unfollowed := true, recurses := true, apart := false, narrowed := true }
def CellStylesUptoSaid : Prop := cellStylesUptoRow.holds Try.pinned (OpenSpec.upto cellStylesSpec)

/-- 'wayfarerlaw14.CellChanges', WHERE WHAT IT READS IS OF BULK AT MOST 1048576: true; the input reads as it did. -/
def cellChangesUptoRow : OpenClaim := { program := "ytlejmllacikmeaa", sum := "6972bd9f52ef4cee166c6b2303c07306f8d0e6952e67b86c7c484a49c9f2894a", func := "wayfarer/wayfarerlaw14.CellChanges", spec := "cellChanges", unfollowed := true, recurses := true, apart := false, narrowed := true }
def CellChangesUptoSaid : Prop := cellChangesUptoRow.holds Try.pinned (OpenSpec.upto cellChangesSpec)

/-- 'wayfarerlaw14.CellStays', WHERE WHAT IT READS IS OF BULK AT MOST 1048576: true; the input reads as it did. -/
def cellStaysUptoRow : OpenClaim := { program := "ytlejmllacikmeaa", sum := "6972bd9f52ef4cee166c6b2303c07306f8d0e6952e67b86c7c484a49c9f2894a", func := "wayfarer/wayfarerlaw14.CellStays", spec := "cellStays", unfollowed := true, recurses := true, apart := false, narrowed := true }
def CellStaysUptoSaid : Prop := cellStaysUptoRow.holds Try.pinned (OpenSpec.upto cellStaysSpec)

end Rows
end Go.Proofs.Ytlejmllacikmeaa
