/-
  No cell of these rows narrows 'for every input' (looked for: loops, veiled, ifaces, maps, wideKeys, modest, calm, conditions, laid).
  DERIVED. THE GIVEN ROWS OF THIS SEAT. 5 by the template 'for every input the law returns true; each argument reads behind the call as it read before'; 0 by the template 'total and deterministic' (their statements: YtecgipccippddaaTotals.lean).
  GIVEN WITH THE SEED: the statements are not yours to turn. If you find one false, say at which input.
  Laid BY PROGRAM, IN A SANDBOX (cutbox-rows.mjs): the forced cells as the released guide's own fill.sh prints them over the translation beb143a4b763c42a… (all of the seat's roots in one cut). By AI agents, Wed Nov 11 2026. No macro, syntax, notation, axiom, sorry.
-/
import Derived.Test.YtecgipccippddaaChecked
import GoSem.Claim
import GoSem.ClaimJoined
import GoSem.ClaimMapViews
import Derived.JoinedTies
import Derived.KernelRfl
namespace Go.Proofs.Ytecgipccippddaa
/- THE CELL 'sum', in the pinned program and in every row, IS THE sha256 OF THE DUMP (.gsa) THAT YtecgipccippddaaProg.lean LOADS. Nothing in Lean hashes anything: it is a label: what it is worth is what the hold of that sum in a sandbox is worth. -/
noncomputable def Try.pinned : Pinned := { name := "ytecgipccippddaa", sum := "beb143a4b763c42aba24f4e5cbb69e81788ef1af76b419fb870d7cbdccc61eee", checked := Try.checked }
namespace Rows
def none {H : Type} : Left H := { results := [], args := [] }

/-- 'wayfarerlaw13.VtBounds': WHATEVER THE INPUT: true; the input reads as it did. -/
def vtBoundsSpec : ChangeSpec := { name := "vtBounds", fn := fun _ => fun
  | [d1, d2] => { results := [.lit (.bool true)], args := [d1, d2] }
  | _ => none }
def vtBoundsRow : OpenClaim := { program := "ytecgipccippddaa", sum := "beb143a4b763c42aba24f4e5cbb69e81788ef1af76b419fb870d7cbdccc61eee", func := "wayfarer/wayfarerlaw13.VtBounds", spec := "vtBounds", apart := false }
def VtBoundsSaid : Prop := vtBoundsRow.holds Try.pinned (OpenSpec.ofChange vtBoundsSpec)

/-- ITS FALSE NEIGHBOUR: 'it returns false'. Refute it at one input. -/
def vtBoundsWrong : ChangeSpec := { name := "vtBounds", fn := fun _ => fun
  | [d1, d2] => { results := [.lit (.bool false)], args := [d1, d2] }
  | _ => none }
def VtBoundsWrongFalsely : Prop := vtBoundsRow.holds Try.pinned (OpenSpec.ofChange vtBoundsWrong)

/-- 'wayfarerlaw13.VtPlain': WHATEVER THE INPUT: true; the input reads as it did. -/
def vtPlainSpec : ChangeSpec := { name := "vtPlain", fn := fun _ => fun
  | [d] => { results := [.lit (.bool true)], args := [d] }
  | _ => none }
def vtPlainRow : OpenClaim := { program := "ytecgipccippddaa", sum := "beb143a4b763c42aba24f4e5cbb69e81788ef1af76b419fb870d7cbdccc61eee", func := "wayfarer/wayfarerlaw13.VtPlain", spec := "vtPlain", apart := false }
def VtPlainSaid : Prop := vtPlainRow.holds Try.pinned (OpenSpec.ofChange vtPlainSpec)

/-- ITS FALSE NEIGHBOUR: 'it returns false'. Refute it at one input. -/
def vtPlainWrong : ChangeSpec := { name := "vtPlain", fn := fun _ => fun
  | [d] => { results := [.lit (.bool false)], args := [d] }
  | _ => none }
def VtPlainWrongFalsely : Prop := vtPlainRow.holds Try.pinned (OpenSpec.ofChange vtPlainWrong)

/-- 'wayfarerlaw13.VtFresh': WHATEVER THE INPUT: true; the input reads as it did. -/
def vtFreshSpec : ChangeSpec := { name := "vtFresh", fn := fun _ => fun
  | [d1, d2] => { results := [.lit (.bool true)], args := [d1, d2] }
  | _ => none }
def vtFreshRow : OpenClaim := { program := "ytecgipccippddaa", sum := "beb143a4b763c42aba24f4e5cbb69e81788ef1af76b419fb870d7cbdccc61eee", func := "wayfarer/wayfarerlaw13.VtFresh", spec := "vtFresh", apart := false }
def VtFreshSaid : Prop := vtFreshRow.holds Try.pinned (OpenSpec.ofChange vtFreshSpec)

/-- ITS FALSE NEIGHBOUR: 'it returns false'. Refute it at one input. -/
def vtFreshWrong : ChangeSpec := { name := "vtFresh", fn := fun _ => fun
  | [d1, d2] => { results := [.lit (.bool false)], args := [d1, d2] }
  | _ => none }
def VtFreshWrongFalsely : Prop := vtFreshRow.holds Try.pinned (OpenSpec.ofChange vtFreshWrong)

/-- 'wayfarerlaw13.VtNil': WHATEVER THE INPUT: true; the input reads as it did. -/
def vtNilSpec : ChangeSpec := { name := "vtNil", fn := fun _ => fun
  | [d] => { results := [.lit (.bool true)], args := [d] }
  | _ => none }
def vtNilRow : OpenClaim := { program := "ytecgipccippddaa", sum := "beb143a4b763c42aba24f4e5cbb69e81788ef1af76b419fb870d7cbdccc61eee", func := "wayfarer/wayfarerlaw13.VtNil", spec := "vtNil", apart := false }
def VtNilSaid : Prop := vtNilRow.holds Try.pinned (OpenSpec.ofChange vtNilSpec)

/-- ITS FALSE NEIGHBOUR: 'it returns false'. Refute it at one input. -/
def vtNilWrong : ChangeSpec := { name := "vtNil", fn := fun _ => fun
  | [d] => { results := [.lit (.bool false)], args := [d] }
  | _ => none }
def VtNilWrongFalsely : Prop := vtNilRow.holds Try.pinned (OpenSpec.ofChange vtNilWrong)

/-- 'wayfarerlaw13.VtTakes': WHATEVER THE INPUT: true; the input reads as it did. -/
def vtTakesSpec : ChangeSpec := { name := "vtTakes", fn := fun _ => fun
  | [d1, d2, d3] => { results := [.lit (.bool true)], args := [d1, d2, d3] }
  | _ => none }
def vtTakesRow : OpenClaim := { program := "ytecgipccippddaa", sum := "beb143a4b763c42aba24f4e5cbb69e81788ef1af76b419fb870d7cbdccc61eee", func := "wayfarer/wayfarerlaw13.VtTakes", spec := "vtTakes", apart := false }
def VtTakesSaid : Prop := vtTakesRow.holds Try.pinned (OpenSpec.ofChange vtTakesSpec)

/-- ITS FALSE NEIGHBOUR: 'it returns false'. Refute it at one input. -/
def vtTakesWrong : ChangeSpec := { name := "vtTakes", fn := fun _ => fun
  | [d1, d2, d3] => { results := [.lit (.bool false)], args := [d1, d2, d3] }
  | _ => none }
def VtTakesWrongFalsely : Prop := vtTakesRow.holds Try.pinned (OpenSpec.ofChange vtTakesWrong)

/- THE SECOND FORM. 'bulk': how many values and letters a reading holds, each counted each time it is reached (what is shared counts as often as it is met; a slice's spare places count too). A statement '..UptoSaid' is the law's where the arguments, and the package variables that the reading takes, are together of bulk at most 1048576: NARROWER than '..Said'. Prove '..Said' where nothing that the law and all that it calls make is longer than what came in: it says more and counts as full. Else prove '..UptoSaid'. A law counts once. -/
mutual
def uptoBulk {H : Type} : DataW H → Nat
  | .lit (.string bytes) => bytes.length + 1
  | .lit _ => 1
  | .nil => 1
  | .ptr d => uptoBulk d + 1
  | .slice elems spare => uptoBulkAll elems + uptoBulkAll spare + 1
  | .agg parts => uptoBulkAll parts + 1
  | .iface _ d => uptoBulk d + 1
  | .map entries => uptoBulkEntries entries + 1
  | .held _ => 1
def uptoBulkAll {H : Type} : List (DataW H) → Nat
  | [] => 0
  | d :: r => uptoBulk d + uptoBulkAll r
def uptoBulkEntries {H : Type} : List (Lit × DataW H) → Nat
  | [] => 0
  | x :: r => uptoBulkEntry x + uptoBulkEntries r
def uptoBulkEntry {H : Type} : Lit × DataW H → Nat
  | (.string bytes, d) => bytes.length + uptoBulk d + 1
  | (_, d) => uptoBulk d + 1
 end
def uptoSmall : (H : Type) → List (DataW H) → Bool := fun _ ds => decide (uptoBulkAll ds ≤ 1048576)
def OpenSpec.upto (s : _root_.Go.ChangeSpec) : _root_.Go.OpenSpec := { _root_.Go.OpenSpec.ofChange s with cond := some uptoSmall }

/-- 'wayfarerlaw13.VtBounds', WHERE WHAT IT READS IS OF BULK AT MOST 1048576: true; the input reads as it did. -/
def vtBoundsUptoRow : OpenClaim := { program := "ytecgipccippddaa", sum := "beb143a4b763c42aba24f4e5cbb69e81788ef1af76b419fb870d7cbdccc61eee", func := "wayfarer/wayfarerlaw13.VtBounds", spec := "vtBounds", apart := false, narrowed := true }
def VtBoundsUptoSaid : Prop := vtBoundsUptoRow.holds Try.pinned (OpenSpec.upto vtBoundsSpec)

/-- 'wayfarerlaw13.VtPlain', WHERE WHAT IT READS IS OF BULK AT MOST 1048576: true; the input reads as it did. -/
def vtPlainUptoRow : OpenClaim := { program := "ytecgipccippddaa", sum := "beb143a4b763c42aba24f4e5cbb69e81788ef1af76b419fb870d7cbdccc61eee", func := "wayfarer/wayfarerlaw13.VtPlain", spec := "vtPlain", apart := false, narrowed := true }
def VtPlainUptoSaid : Prop := vtPlainUptoRow.holds Try.pinned (OpenSpec.upto vtPlainSpec)

/-- 'wayfarerlaw13.VtFresh', WHERE WHAT IT READS IS OF BULK AT MOST 1048576: true; the input reads as it did. -/
def vtFreshUptoRow : OpenClaim := { program := "ytecgipccippddaa", sum := "beb143a4b763c42aba24f4e5cbb69e81788ef1af76b419fb870d7cbdccc61eee", func := "wayfarer/wayfarerlaw13.VtFresh", spec := "vtFresh", apart := false, narrowed := true }
def VtFreshUptoSaid : Prop := vtFreshUptoRow.holds Try.pinned (OpenSpec.upto vtFreshSpec)

/-- 'wayfarerlaw13.VtNil', WHERE WHAT IT READS IS OF BULK AT MOST 1048576: true; the input reads as it did. -/
def vtNilUptoRow : OpenClaim := { program := "ytecgipccippddaa", sum := "beb143a4b763c42aba24f4e5cbb69e81788ef1af76b419fb870d7cbdccc61eee", func := "wayfarer/wayfarerlaw13.VtNil", spec := "vtNil", apart := false, narrowed := true }
def VtNilUptoSaid : Prop := vtNilUptoRow.holds Try.pinned (OpenSpec.upto vtNilSpec)

/-- 'wayfarerlaw13.VtTakes', WHERE WHAT IT READS IS OF BULK AT MOST 1048576: true; the input reads as it did. -/
def vtTakesUptoRow : OpenClaim := { program := "ytecgipccippddaa", sum := "beb143a4b763c42aba24f4e5cbb69e81788ef1af76b419fb870d7cbdccc61eee", func := "wayfarer/wayfarerlaw13.VtTakes", spec := "vtTakes", apart := false, narrowed := true }
def VtTakesUptoSaid : Prop := vtTakesUptoRow.holds Try.pinned (OpenSpec.upto vtTakesSpec)

end Rows
end Go.Proofs.Ytecgipccippddaa
