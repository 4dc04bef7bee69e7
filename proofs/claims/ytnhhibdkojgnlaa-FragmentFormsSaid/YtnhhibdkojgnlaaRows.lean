/-
  No cell of these rows narrows 'for every input' (looked for: loops, veiled, ifaces, maps, wideKeys, modest, calm, conditions, laid).
  DERIVED. THE GIVEN ROWS OF THIS SEAT. 4 by the template 'for every input the law returns true; each argument reads behind the call as it read before'; 0 by the template 'total and deterministic' (their statements: YtnhhibdkojgnlaaTotals.lean).
  GIVEN WITH THE SEED: the statements are not yours to turn. If you find one false, say at which input.
  Laid BY PROGRAM, IN A SANDBOX (cutbox-rows.mjs): the forced cells as the released guide's own fill.sh prints them over the translation 39248b728d6a6c23… (all of the seat's roots in one cut). By AI agents, Wed Nov 11 2026. No macro, syntax, notation, axiom, sorry.
-/
import Derived.Test.YtnhhibdkojgnlaaChecked
import GoSem.Claim
import GoSem.ClaimJoined
import GoSem.ClaimMapViews
import Derived.JoinedTies
import Derived.KernelRfl
namespace Go.Proofs.Ytnhhibdkojgnlaa
/- THE CELL 'sum', in the pinned program and in every row, IS THE sha256 OF THE DUMP (.gsa) THAT YtnhhibdkojgnlaaProg.lean LOADS. Nothing in Lean hashes anything: it is a label: what it is worth is what the hold of that sum in a sandbox is worth. -/
noncomputable def Try.pinned : Pinned := { name := "ytnhhibdkojgnlaa", sum := "39248b728d6a6c23f69c79dd50a7a4a4b604a2db9b6f876753dc1588d92f0247", checked := Try.checked }
namespace Rows
def none {H : Type} : Left H := { results := [], args := [] }

/-- 'wayfarerlaw10.FragmentJoins': WHATEVER THE INPUT: true; the input reads as it did. -/
def fragmentJoinsSpec : ChangeSpec := { name := "fragmentJoins", fn := fun _ => fun
  | [d] => { results := [.lit (.bool true)], args := [d] }
  | _ => none }
def fragmentJoinsRow : OpenClaim := { program := "ytnhhibdkojgnlaa", sum := "39248b728d6a6c23f69c79dd50a7a4a4b604a2db9b6f876753dc1588d92f0247", func := "wayfarer/wayfarerlaw10.FragmentJoins", spec := "fragmentJoins", plainKeys := false, apart := false }
def FragmentJoinsSaid : Prop := fragmentJoinsRow.holds Try.pinned (OpenSpec.ofChange fragmentJoinsSpec)

/-- ITS FALSE NEIGHBOUR: 'it returns false'. Refute it at one input. -/
def fragmentJoinsWrong : ChangeSpec := { name := "fragmentJoins", fn := fun _ => fun
  | [d] => { results := [.lit (.bool false)], args := [d] }
  | _ => none }
def FragmentJoinsWrongFalsely : Prop := fragmentJoinsRow.holds Try.pinned (OpenSpec.ofChange fragmentJoinsWrong)

/-- 'wayfarerlaw10.FragmentNil': WHATEVER THE INPUT: true; the input reads as it did. -/
def fragmentNilSpec : ChangeSpec := { name := "fragmentNil", fn := fun _ => fun
  | [d] => { results := [.lit (.bool true)], args := [d] }
  | _ => none }
def fragmentNilRow : OpenClaim := { program := "ytnhhibdkojgnlaa", sum := "39248b728d6a6c23f69c79dd50a7a4a4b604a2db9b6f876753dc1588d92f0247", func := "wayfarer/wayfarerlaw10.FragmentNil", spec := "fragmentNil", plainKeys := false, apart := false }
def FragmentNilSaid : Prop := fragmentNilRow.holds Try.pinned (OpenSpec.ofChange fragmentNilSpec)

/-- ITS FALSE NEIGHBOUR: 'it returns false'. Refute it at one input. -/
def fragmentNilWrong : ChangeSpec := { name := "fragmentNil", fn := fun _ => fun
  | [d] => { results := [.lit (.bool false)], args := [d] }
  | _ => none }
def FragmentNilWrongFalsely : Prop := fragmentNilRow.holds Try.pinned (OpenSpec.ofChange fragmentNilWrong)

/-- 'wayfarerlaw10.FragmentForms': WHATEVER THE INPUT: true; the input reads as it did. -/
def fragmentFormsSpec : ChangeSpec := { name := "fragmentForms", fn := fun _ => fun
  | [d1, d2, d3] => { results := [.lit (.bool true)], args := [d1, d2, d3] }
  | _ => none }
def fragmentFormsRow : OpenClaim := { program := "ytnhhibdkojgnlaa", sum := "39248b728d6a6c23f69c79dd50a7a4a4b604a2db9b6f876753dc1588d92f0247", func := "wayfarer/wayfarerlaw10.FragmentForms", spec := "fragmentForms", plainKeys := false, apart := false }
def FragmentFormsSaid : Prop := fragmentFormsRow.holds Try.pinned (OpenSpec.ofChange fragmentFormsSpec)

/-- ITS FALSE NEIGHBOUR: 'it returns false'. Refute it at one input. -/
def fragmentFormsWrong : ChangeSpec := { name := "fragmentForms", fn := fun _ => fun
  | [d1, d2, d3] => { results := [.lit (.bool false)], args := [d1, d2, d3] }
  | _ => none }
def FragmentFormsWrongFalsely : Prop := fragmentFormsRow.holds Try.pinned (OpenSpec.ofChange fragmentFormsWrong)

/-- 'wayfarerlaw10.FragmentBytes': WHATEVER THE INPUT: true; the input reads as it did. -/
def fragmentBytesSpec : ChangeSpec := { name := "fragmentBytes", fn := fun _ => fun
  | [d1, d2] => { results := [.lit (.bool true)], args := [d1, d2] }
  | _ => none }
def fragmentBytesRow : OpenClaim := { program := "ytnhhibdkojgnlaa", sum := "39248b728d6a6c23f69c79dd50a7a4a4b604a2db9b6f876753dc1588d92f0247", func := "wayfarer/wayfarerlaw10.FragmentBytes", spec := "fragmentBytes", plainKeys := false, apart := false }
def FragmentBytesSaid : Prop := fragmentBytesRow.holds Try.pinned (OpenSpec.ofChange fragmentBytesSpec)

/-- ITS FALSE NEIGHBOUR: 'it returns false'. Refute it at one input. -/
def fragmentBytesWrong : ChangeSpec := { name := "fragmentBytes", fn := fun _ => fun
  | [d1, d2] => { results := [.lit (.bool false)], args := [d1, d2] }
  | _ => none }
def FragmentBytesWrongFalsely : Prop := fragmentBytesRow.holds Try.pinned (OpenSpec.ofChange fragmentBytesWrong)

/- THE SECOND FORM. 'bulk': how many values and letters a reading holds, each counted each time it is reached (what is shared counts as often as it is met; a slice's spare places count too). A statement '..UptoSaid' is the law's where the arguments, and the package variables that the reading takes, are together of bulk at most 1048576: NARROWER than '..Said'. Prove '..Said' where nothing that the law and all that it calls make is longer than what came in: it says more and counts as full. Else prove '..UptoSaid'. A law counts once. -/
mutual
def uptoBulk {H : Type} : DataW H → Nat
  | .lit (.string bytes) => bytes.length + 1
  | .lit _ => 1
  | .nil => 1
  | .ptr d => uptoBulk d + 1
  | .slice elems spare => uptoBulkAll elems + uptoBulkAll spare + 1
  | .agg parts => uptoBulkAll parts + 1
  | .iface _ d => uptoBulk d + 1
  | .map entries => uptoBulkEntries entries + 1
  | .held _ => 1
def uptoBulkAll {H : Type} : List (DataW H) → Nat
  | [] => 0
  | d :: r => uptoBulk d + uptoBulkAll r
def uptoBulkEntries {H : Type} : List (Lit × DataW H) → Nat
  | [] => 0
  | x :: r => uptoBulkEntry x + uptoBulkEntries r
def uptoBulkEntry {H : Type} : Lit × DataW H → Nat
  | (.string bytes, d) => bytes.length + uptoBulk d + 1
  | (_, d) => uptoBulk d + 1
 end
def uptoSmall : (H : Type) → List (DataW H) → Bool := fun _ ds => decide (uptoBulkAll ds ≤ 1048576)
def OpenSpec.upto (s : _root_.Go.ChangeSpec) : _root_.Go.OpenSpec := { _root_.Go.OpenSpec.ofChange s with cond := some uptoSmall }

/-- 'wayfarerlaw10.FragmentJoins', WHERE WHAT IT READS IS OF BULK AT MOST 1048576: true; the input reads as it did. -/
def fragmentJoinsUptoRow : OpenClaim := { program := "ytnhhibdkojgnlaa", sum := "39248b728d6a6c23f69c79dd50a7a4a4b604a2db9b6f876753dc1588d92f0247", func := "wayfarer/wayfarerlaw10.FragmentJoins", spec := "fragmentJoins", plainKeys := false, apart := false, narrowed := true }
def FragmentJoinsUptoSaid : Prop := fragmentJoinsUptoRow.holds Try.pinned (OpenSpec.upto fragmentJoinsSpec)

/-- 'wayfarerlaw10.FragmentNil', WHERE WHAT IT READS IS OF BULK AT MOST 1048576: true; the input reads as it did. -/
def fragmentNilUptoRow : OpenClaim := { program := "ytnhhibdkojgnlaa", sum := "39248b728d6a6c23f69c79dd50a7a4a4b604a2db9b6f876753dc1588d92f0247", func := "wayfarer/wayfarerlaw10.FragmentNil", spec := "fragmentNil", plainKeys := false, apart := false, narrowed := true }
def FragmentNilUptoSaid : Prop := fragmentNilUptoRow.holds Try.pinned (OpenSpec.upto fragmentNilSpec)

/-- 'wayfarerlaw10.FragmentForms', WHERE WHAT IT READS IS OF BULK AT MOST 1048576: true; the input reads as it did. -/
def fragmentFormsUptoRow : OpenClaim := { program := "ytnhhibdkojgnlaa", sum := "39248b728d6a6c23f69c79dd50a7a4a4b604a2db9b6f876753dc1588d92f0247", func := "wayfarer/wayfarerlaw10.FragmentForms", spec := "fragmentForms", plainKeys := false, apart := false, narrowed := true }
def FragmentFormsUptoSaid : Prop := fragmentFormsUptoRow.holds Try.pinned (OpenSpec.upto fragmentFormsSpec)

/-- 'wayfarerlaw10.FragmentBytes', WHERE WHAT IT READS IS OF BULK AT MOST 1048576: true; the input reads as it did. -/
def fragmentBytesUptoRow : OpenClaim := { program := "ytnhhibdkojgnlaa", sum := "39248b728d6a6c23f69c79dd50a7a4a4b604a2db9b6f876753dc1588d92f0247", func := "wayfarer/wayfarerlaw10.FragmentBytes", spec := "fragmentBytes", plainKeys := false, apart := false, narrowed := true }
def FragmentBytesUptoSaid : Prop := fragmentBytesUptoRow.holds Try.pinned (OpenSpec.upto fragmentBytesSpec)

end Rows
end Go.Proofs.Ytnhhibdkojgnlaa
