/-
  No cell of these rows narrows 'for every input' (looked for: loops, veiled, ifaces, maps, wideKeys, modest, calm, conditions, laid).
  DERIVED. THE GIVEN ROWS OF THIS SEAT. 6 by the template 'for every input the law returns true; each argument reads behind the call as it read before'; 0 by the template 'total and deterministic' (their statements: YtclnohifgjjngaaTotals.lean).
  GIVEN WITH THE SEED: the statements are not yours to turn. If you find one false, say at which input.
  Laid BY PROGRAM, IN A SANDBOX (cutbox-rows.mjs): the forced cells as the released guide's own fill.sh prints them over the translation 4cdc72525f9640bd… (all of the seat's roots in one cut). By AI agents, Wed Nov 11 2026. No macro, syntax, notation, axiom, sorry.
-/
import Derived.Test.YtclnohifgjjngaaChecked
import GoSem.Claim
import GoSem.ClaimJoined
import GoSem.ClaimMapViews
import Derived.JoinedTies
import Derived.KernelRfl
namespace Go.Proofs.Ytclnohifgjjngaa
/- THE CELL 'sum', in the pinned program and in every row, IS THE sha256 OF THE DUMP (.gsa) THAT YtclnohifgjjngaaProg.lean LOADS. Nothing in Lean hashes anything: it is a label: what it is worth is what the hold of that sum in a sandbox is worth. -/
noncomputable def Try.pinned : Pinned := { name := "ytclnohifgjjngaa", sum := "4cdc72525f9640bd1b05fd83ae9ddc12964d2b7a072a447af8e4605229231a73", checked := Try.checked }
namespace Rows
def none {H : Type} : Left H := { results := [], args := [] }

/-- 'wayfarerlaw07.WireNumbers': WHATEVER THE INPUT: true; the input reads as it did. -/
def wireNumbersSpec : ChangeSpec := { name := "wireNumbers", fn := fun _ => fun
  | [d1, d2] => { results := [.lit (.bool true)], args := [d1, d2] }
  | _ => none }
def wireNumbersRow : OpenClaim := { program := "ytclnohifgjjngaa", sum := "4cdc72525f9640bd1b05fd83ae9ddc12964d2b7a072a447af8e4605229231a73", func := "wayfarer/wayfarerlaw07.WireNumbers", spec := "wireNumbers", unfollowed := true, recurses := true, apart := false }
def WireNumbersSaid : Prop := wireNumbersRow.holds Try.pinned (OpenSpec.ofChange wireNumbersSpec)

/-- ITS FALSE NEIGHBOUR: 'it returns false'. Refute it at one input. -/
def wireNumbersWrong : ChangeSpec := { name := "wireNumbers", fn := fun _ => fun
  | [d1, d2] => { results := [.lit (.bool false)], args := [d1, d2] }
  | _ => none }
def WireNumbersWrongFalsely : Prop := wireNumbersRow.holds Try.pinned (OpenSpec.ofChange wireNumbersWrong)

/-- 'wayfarerlaw07.WireInstructions': WHATEVER THE INPUT: true; the input reads as it did. -/
def wireInstructionsSpec : ChangeSpec := { name := "wireInstructions", fn := fun _ => fun
  | [d1, d2] => { results := [.lit (.bool true)], args := [d1, d2] }
  | _ => none }
def wireInstructionsRow : OpenClaim := { program := "ytclnohifgjjngaa", sum := "4cdc72525f9640bd1b05fd83ae9ddc12964d2b7a072a447af8e4605229231a73", func := "wayfarer/wayfarerlaw07.WireInstructions", spec := "wireInstructions", unfollowed := true, recurses := true, apart := false }
def WireInstructionsSaid : Prop := wireInstructionsRow.holds Try.pinned (OpenSpec.ofChange wireInstructionsSpec)

/-- ITS FALSE NEIGHBOUR: 'it returns false'. Refute it at one input. -/
def wireInstructionsWrong : ChangeSpec := { name := "wireInstructions", fn := fun _ => fun
  | [d1, d2] => { results := [.lit (.bool false)], args := [d1, d2] }
  | _ => none }
def WireInstructionsWrongFalsely : Prop := wireInstructionsRow.holds Try.pinned (OpenSpec.ofChange wireInstructionsWrong)

/-- 'wayfarerlaw07.WireEvents': WHATEVER THE INPUT: true; the input reads as it did. -/
def wireEventsSpec : ChangeSpec := { name := "wireEvents", fn := fun _ => fun
  | [d1, d2] => { results := [.lit (.bool true)], args := [d1, d2] }
  | _ => none }
def wireEventsRow : OpenClaim := { program := "ytclnohifgjjngaa", sum := "4cdc72525f9640bd1b05fd83ae9ddc12964d2b7a072a447af8e4605229231a73", func := "wayfarer/wayfarerlaw07.WireEvents", spec := "wireEvents", unfollowed := true, recurses := true, apart := false }
def WireEventsSaid : Prop := wireEventsRow.holds Try.pinned (OpenSpec.ofChange wireEventsSpec)

/-- ITS FALSE NEIGHBOUR: 'it returns false'. Refute it at one input. -/
def wireEventsWrong : ChangeSpec := { name := "wireEvents", fn := fun _ => fun
  | [d1, d2] => { results := [.lit (.bool false)], args := [d1, d2] }
  | _ => none }
def WireEventsWrongFalsely : Prop := wireEventsRow.holds Try.pinned (OpenSpec.ofChange wireEventsWrong)

/-- 'wayfarerlaw07.WireBack': WHATEVER THE INPUT: true; the input reads as it did. -/
def wireBackSpec : ChangeSpec := { name := "wireBack", fn := fun _ => fun
  | [d1, d2, d3] => { results := [.lit (.bool true)], args := [d1, d2, d3] }
  | _ => none }
def wireBackRow : OpenClaim := { program := "ytclnohifgjjngaa", sum := "4cdc72525f9640bd1b05fd83ae9ddc12964d2b7a072a447af8e4605229231a73", func := "wayfarer/wayfarerlaw07.WireBack", spec := "wireBack", unfollowed := true, recurses := true, apart := false }
def WireBackSaid : Prop := wireBackRow.holds Try.pinned (OpenSpec.ofChange wireBackSpec)

/-- ITS FALSE NEIGHBOUR: 'it returns false'. Refute it at one input. -/
def wireBackWrong : ChangeSpec := { name := "wireBack", fn := fun _ => fun
  | [d1, d2, d3] => { results := [.lit (.bool false)], args := [d1, d2, d3] }
  | _ => none }
def WireBackWrongFalsely : Prop := wireBackRow.holds Try.pinned (OpenSpec.ofChange wireBackWrong)

/-- 'wayfarerlaw07.WireForms': WHATEVER THE INPUT: true; the input reads as it did. -/
def wireFormsSpec : ChangeSpec := { name := "wireForms", fn := fun _ => fun
  | [d] => { results := [.lit (.bool true)], args := [d] }
  | _ => none }
def wireFormsRow : OpenClaim := { program := "ytclnohifgjjngaa", sum := "4cdc72525f9640bd1b05fd83ae9ddc12964d2b7a072a447af8e4605229231a73", func := "wayfarer/wayfarerlaw07.WireForms", spec := "wireForms", unfollowed := true, recurses := true, apart := false }
def WireFormsSaid : Prop := wireFormsRow.holds Try.pinned (OpenSpec.ofChange wireFormsSpec)

/-- ITS FALSE NEIGHBOUR: 'it returns false'. Refute it at one input. -/
def wireFormsWrong : ChangeSpec := { name := "wireForms", fn := fun _ => fun
  | [d] => { results := [.lit (.bool false)], args := [d] }
  | _ => none }
def WireFormsWrongFalsely : Prop := wireFormsRow.holds Try.pinned (OpenSpec.ofChange wireFormsWrong)

/-- 'wayfarerlaw07.WireFresh': WHATEVER THE INPUT: true; the input reads as it did. -/
def wireFreshSpec : ChangeSpec := { name := "wireFresh", fn := fun _ => fun
  | [d] => { results := [.lit (.bool true)], args := [d] }
  | _ => none }
def wireFreshRow : OpenClaim := { program := "ytclnohifgjjngaa", sum := "4cdc72525f9640bd1b05fd83ae9ddc12964d2b7a072a447af8e4605229231a73", func := "wayfarer/wayfarerlaw07.WireFresh", spec := "wireFresh", unfollowed := true, recurses := true, apart := false }
def WireFreshSaid : Prop := wireFreshRow.holds Try.pinned (OpenSpec.ofChange wireFreshSpec)

/-- ITS FALSE NEIGHBOUR: 'it returns false'. Refute it at one input. -/
def wireFreshWrong : ChangeSpec := { name := "wireFresh", fn := fun _ => fun
  | [d] => { results := [.lit (.bool false)], args := [d] }
  | _ => none }
def WireFreshWrongFalsely : Prop := wireFreshRow.holds Try.pinned (OpenSpec.ofChange wireFreshWrong)

/- THE SECOND FORM. 'bulk': how many values and letters a reading holds, each counted each time it is reached (what is shared counts as often as it is met; a slice's spare places count too). A statement '..UptoSaid' is the law's where the arguments, and the package variables that the reading takes, are together of bulk at most 1048576: NARROWER than '..Said'. Prove '..Said' where nothing that the law and all that it calls make is longer than what came in: it says more and counts as full. Else prove '..UptoSaid'. A law counts once. -/
mutual
def uptoBulk {H : Type} : DataW H → Nat
  | .lit (.string bytes) => bytes.length + 1
  | .lit _ => 1
  | .nil => 1
  | .ptr d => uptoBulk d + 1
  | .slice elems spare => uptoBulkAll elems + uptoBulkAll spare + 1
  | .agg parts => uptoBulkAll parts + 1
  | .iface _ d => uptoBulk d + 1
  | .map entries => uptoBulkEntries entries + 1
  | .held _ => 1
def uptoBulkAll {H : Type} : List (DataW H) → Nat
  | [] => 0
  | d :: r => uptoBulk d + uptoBulkAll r
def uptoBulkEntries {H : Type} : List (Lit × DataW H) → Nat
  | [] => 0
  | x :: r => uptoBulkEntry x + uptoBulkEntries r
def uptoBulkEntry {H : Type} : Lit × DataW H → Nat
  | (.string bytes, d) => bytes.length + uptoBulk d + 1
  | (_, d) => uptoBulk d + 1
 end
def uptoSmall : (H : Type) → List (DataW H) → Bool := fun _ ds => decide (uptoBulkAll ds ≤ 1048576)
def OpenSpec.upto (s : _root_.Go.ChangeSpec) : _root_.Go.OpenSpec := { _root_.Go.OpenSpec.ofChange s with cond := some uptoSmall }

/-- 'wayfarerlaw07.WireNumbers', WHERE WHAT IT READS IS OF BULK AT MOST 1048576: true; the input reads as it did. -/
def wireNumbersUptoRow : OpenClaim := { program := "ytclnohifgjjngaa", sum := "4cdc72525f9640bd1b05fd83ae9ddc12964d2b7a072a447af8e4605229231a73", func := "wayfarer/wayfarerlaw07.WireNumbers", spec := "wireNumbers", unfollowed := true, recurses := true, apart := false, narrowed := true }
def WireNumbersUptoSaid : Prop := wireNumbersUptoRow.holds Try.pinned (OpenSpec.upto wireNumbersSpec)

/-- 'wayfarerlaw07.WireInstructions', WHERE WHAT IT READS IS OF BULK AT MOST 1048576: true; the input reads as it did. -/
def wireInstructionsUptoRow : OpenClaim := { program := "ytclnohifgjjngaa", sum := "4cdc72525f9640bd1b05fd83ae9ddc12964d2b7a072a447af8e4605229231a73", func := "wayfarer/wayfarerlaw07.WireInstructions", spec := "wireInstructions", unfollowed := true, recurses := true, apart := false, narrowed := true }
def WireInstructionsUptoSaid : Prop := wireInstructionsUptoRow.holds Try.pinned (OpenSpec.upto wireInstructionsSpec)

/-- 'wayfarerlaw07.WireEvents', WHERE WHAT IT READS IS OF BULK AT MOST 1048576: true; the input reads as it did. -/
def wireEventsUptoRow : OpenClaim := { program := "ytclnohifgjjngaa", sum := "4cdc72525f9640bd1b05fd83ae9ddc12964d2b7a072a447af8e4605229231a73", func := "wayfarer/wayfarerlaw07.WireEvents", spec := "wireEvents", unfollowed := true, recurses := true, apart := false, narrowed := true }
def WireEventsUptoSaid : Prop := wireEventsUptoRow.holds Try.pinned (OpenSpec.upto wireEventsSpec)

/-- 'wayfarerlaw07.WireBack', WHERE WHAT IT READS IS OF BULK AT MOST 1048576: true; the input reads as it did. -/
def wireBackUptoRow : OpenClaim := { program := "ytclnohifgjjngaa", sum := "4cdc72525f9640bd1b05fd83ae9ddc12964d2b7a072a447af8e4605229231a73", func := "wayfarer/wayfarerlaw07.WireBack", spec := "wireBack", unfollowed := true, recurses := true, apart := false, narrowed := true }
def WireBackUptoSaid : Prop := wireBackUptoRow.holds Try.pinned (OpenSpec.upto wireBackSpec)

/-- 'wayfarerlaw07.WireForms', WHERE WHAT IT READS IS OF BULK AT MOST 1048576: true; the input reads as it did. -/
def wireFormsUptoRow : OpenClaim := { program := "ytclnohifgjjngaa", sum := "4cdc72525f9640bd1b05fd83ae9ddc12964d2b7a072a447af8e4605229231a73", func := "wayfarer/wayfarerlaw07.WireForms", spec := "wireForms", unfollowed := true, recurses := true, apart := false, narrowed := true }
def WireFormsUptoSaid : Prop := wireFormsUptoRow.holds Try.pinned (OpenSpec.upto wireFormsSpec)

/-- 'wayfarerlaw07.WireFresh', WHERE WHAT IT READS IS OF BULK AT MOST 1048576: true; the input reads as it did. -/
def wireFreshUptoRow : OpenClaim := { program := "ytclnohifgjjngaa", sum := "4cdc72525f9640bd1b05fd83ae9ddc12964d2b7a072a447af8e4605229231a73", func := "wayfarer/wayfarerlaw07.WireFresh", spec := "wireFresh", unfollowed := true, recurses := true, apart := false, narrowed := true }
def WireFreshUptoSaid : Prop := wireFreshUptoRow.holds Try.pinned (OpenSpec.upto wireFreshSpec)

end Rows
end Go.Proofs.Ytclnohifgjjngaa
