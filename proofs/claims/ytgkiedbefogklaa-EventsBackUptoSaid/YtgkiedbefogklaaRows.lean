/-
  No cell of these rows narrows 'for every input' (looked for: loops, veiled, ifaces, maps, wideKeys, modest, calm, conditions, laid).
  DERIVED. THE GIVEN ROWS OF THIS SEAT. 3 by the template 'for every input the law returns true; each argument reads behind the call as it read before'; 0 by the template 'total and deterministic' (their statements: YtgkiedbefogklaaTotals.lean).
  GIVEN WITH THE SEED: the statements are not yours to turn. If you find one false, say at which input.
  Laid BY PROGRAM, IN A SANDBOX (cutbox-rows.mjs): the forced cells as the released guide's own fill.sh prints them over the translation 19984c6a4e92caa0… (all of the seat's roots in one cut). By AI agents, Wed Nov 11 2026. No macro, syntax, notation, axiom, sorry.
-/
import Derived.Test.YtgkiedbefogklaaChecked
import GoSem.Claim
import GoSem.ClaimJoined
import GoSem.ClaimMapViews
import Derived.JoinedTies
import Derived.KernelRfl
namespace Go.Proofs.Ytgkiedbefogklaa
/- THE CELL 'sum', in the pinned program and in every row, IS THE sha256 OF THE DUMP (.gsa) THAT YtgkiedbefogklaaProg.lean LOADS. Nothing in Lean hashes anything: it is a label: what it is worth is what the hold of that sum in a sandbox is worth. -/
noncomputable def Try.pinned : Pinned := { name := "ytgkiedbefogklaa", sum := "19984c6a4e92caa04a36cf1b6d4127a21c88bec0e87dc46c30e91c910c09aabd", checked := Try.checked }
namespace Rows
def none {H : Type} : Left H := { results := [], args := [] }

/-- 'wayfarerlaw21.EventsBack': WHATEVER THE INPUT: true; the input reads as it did. -/
def eventsBackSpec : ChangeSpec := { name := "eventsBack", fn := fun _ => fun
  | [d1, d2, d3] => { results := [.lit (.bool true)], args := [d1, d2, d3] }
  | _ => none }
def eventsBackRow : OpenClaim := { program := "ytgkiedbefogklaa", sum := "19984c6a4e92caa04a36cf1b6d4127a21c88bec0e87dc46c30e91c910c09aabd", func := "wayfarer/wayfarerlaw21.EventsBack", spec := "eventsBack", unfollowed := true, recurses := true, apart := false }
def EventsBackSaid : Prop := eventsBackRow.holds Try.pinned (OpenSpec.ofChange eventsBackSpec)

/-- ITS FALSE NEIGHBOUR: 'it returns false'. Refute it at one input. -/
def eventsBackWrong : ChangeSpec := { name := "eventsBack", fn := fun _ => fun
  | [d1, d2, d3] => { results := [.lit (.bool false)], args := [d1, d2, d3] }
  | _ => none }
def EventsBackWrongFalsely : Prop := eventsBackRow.holds Try.pinned (OpenSpec.ofChange eventsBackWrong)

/-- 'wayfarerlaw21.EventsTurn': WHATEVER THE INPUT: true; the input reads as it did. -/
def eventsTurnSpec : ChangeSpec := { name := "eventsTurn", fn := fun _ => fun
  | [d1, d2, d3] => { results := [.lit (.bool true)], args := [d1, d2, d3] }
  | _ => none }
def eventsTurnRow : OpenClaim := { program := "ytgkiedbefogklaa", sum := "19984c6a4e92caa04a36cf1b6d4127a21c88bec0e87dc46c30e91c910c09aabd", func := "wayfarer/wayfarerlaw21.EventsTurn", spec := "eventsTurn", unfollowed := true, recurses := true, apart := false }
def EventsTurnSaid : Prop := eventsTurnRow.holds Try.pinned (OpenSpec.ofChange eventsTurnSpec)

/-- ITS FALSE NEIGHBOUR: 'it returns false'. Refute it at one input. -/
def eventsTurnWrong : ChangeSpec := { name := "eventsTurn", fn := fun _ => fun
  | [d1, d2, d3] => { results := [.lit (.bool false)], args := [d1, d2, d3] }
  | _ => none }
def EventsTurnWrongFalsely : Prop := eventsTurnRow.holds Try.pinned (OpenSpec.ofChange eventsTurnWrong)

/-- 'wayfarerlaw21.EventsFresh': WHATEVER THE INPUT: true; the input reads as it did. -/
def eventsFreshSpec : ChangeSpec := { name := "eventsFresh", fn := fun _ => fun
  | [d1, d2] => { results := [.lit (.bool true)], args := [d1, d2] }
  | _ => none }
def eventsFreshRow : OpenClaim := { program := "ytgkiedbefogklaa", sum := "19984c6a4e92caa04a36cf1b6d4127a21c88bec0e87dc46c30e91c910c09aabd", func := "wayfarer/wayfarerlaw21.EventsFresh", spec := "eventsFresh", unfollowed := true, recurses := true, apart := false }
def EventsFreshSaid : Prop := eventsFreshRow.holds Try.pinned (OpenSpec.ofChange eventsFreshSpec)

/-- ITS FALSE NEIGHBOUR: 'it returns false'. Refute it at one input. -/
def eventsFreshWrong : ChangeSpec := { name := "eventsFresh", fn := fun _ => fun
  | [d1, d2] => { results := [.lit (.bool false)], args := [d1, d2] }
  | _ => none }
def EventsFreshWrongFalsely : Prop := eventsFreshRow.holds Try.pinned (OpenSpec.ofChange eventsFreshWrong)

/- THE SECOND FORM. 'bulk': how many values and letters a reading holds, each counted each time it is reached (what is shared counts as often as it is met; a slice's spare places count too). A statement '..UptoSaid' is the law's where the arguments, and the package variables that the reading takes, are together of bulk at most 1048576: NARROWER than '..Said'. Prove '..Said' where nothing that the law and all that it calls make is longer than what came in: it says more and counts as full. Else prove '..UptoSaid'. A law counts once. -/
mutual
def uptoBulk {H : Type} : DataW H → Nat
  | .lit (.string bytes) => bytes.length + 1
  | .lit _ => 1
  | .nil => 1
  | .ptr d => uptoBulk d + 1
  | .slice elems spare => uptoBulkAll elems + uptoBulkAll spare + 1
  | .agg parts => uptoBulkAll parts + 1
  | .iface _ d => uptoBulk d + 1
  | .map entries => uptoBulkEntries entries + 1
  | .held _ => 1
def uptoBulkAll {H : Type} : List (DataW H) → Nat
  | [] => 0
  | d :: r => uptoBulk d + uptoBulkAll r
def uptoBulkEntries {H : Type} : List (Lit × DataW H) → Nat
  | [] => 0
  | x :: r => uptoBulkEntry x + uptoBulkEntries r
def uptoBulkEntry {H : Type} : Lit × DataW H → Nat
  | (.string bytes, d) => bytes.length + uptoBulk d + 1
  | (_, d) => uptoBulk d + 1
 end
def uptoSmall : (H : Type) → List (DataW H) → Bool := fun _ ds => decide (uptoBulkAll ds ≤ 1048576)
def OpenSpec.upto (s : _root_.Go.ChangeSpec) : _root_.Go.OpenSpec := { _root_.Go.OpenSpec.ofChange s with cond := some uptoSmall }

/-- 'wayfarerlaw21.EventsBack', WHERE WHAT IT READS IS OF BULK AT MOST 1048576: true; the input reads as it did. -/
def eventsBackUptoRow : OpenClaim := { program := "ytgkiedbefogklaa", sum := "19984c6a4e92caa04a36cf1b6d4127a21c88bec0e87dc46c30e91c910c09aabd", func := "wayfarer/wayfarerlaw21.EventsBack", spec := "eventsBack", unfollowed := true, recurses := true, apart := false, narrowed := true }
def EventsBackUptoSaid : Prop := eventsBackUptoRow.holds Try.pinned (OpenSpec.upto eventsBackSpec)

/-- 'wayfarerlaw21.EventsTurn', WHERE WHAT IT READS IS OF BULK AT MOST 1048576: true; the input reads as it did. -/
def eventsTurnUptoRow : OpenClaim := { program := "ytgkiedbefogklaa", sum := "19984c6a4e92caa04a36cf1b6d4127a21c88bec0e87dc46c30e91c910c09aabd", func := "wayfarer/wayfarerlaw21.EventsTurn", spec := "eventsTurn", unfollowed := true, recurses := true, apart := false, narrowed := true }
def EventsTurnUptoSaid : Prop := eventsTurnUptoRow.holds Try.pinned (OpenSpec.upto eventsTurnSpec)

/-- 'wayfarerlaw21.EventsFresh', WHERE WHAT IT READS IS OF BULK AT MOST 1048576: true; the input reads as it did. -/
def eventsFreshUptoRow : OpenClaim := { program := "ytgkiedbefogklaa", sum := "19984c6a4e92caa04a36cf1b6d4127a21c88bec0e87dc46c30e91c910c09aabd", func := "wayfarer/wayfarerlaw21.EventsFresh", spec := "eventsFresh", unfollowed := true, recurses := true, apart := false, narrowed := true }
def EventsFreshUptoSaid : Prop := eventsFreshUptoRow.holds Try.pinned (OpenSpec.upto eventsFreshSpec)

end Rows
end Go.Proofs.Ytgkiedbefogklaa
