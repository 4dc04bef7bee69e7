/- What is proved: arguments by value (arrays and structs of whole numbers), opened; no condition beyond those typed. -/
import Derived.Test.YtpnejbdfkncjlaaProg
import Derived.ProofKit
import Derived.OpenShut
import Derived.Laws.IdiomArrays
import Derived.Lib.SmallJoins
set_option linter.unusedVariables false
set_option linter.unusedSimpArgs false
namespace Go.Proofs.Ytpnejbdfkncjlaa
open Go Go.ChangeShapes Go.WideShapes Go.RowKit Go.Joins Go.Deep
section
variable {H : Type} {enc : TypeId × Value → H} {P : Program} {W : World} {base : Nat} {spare : Nat → Bool} {held : Bool}
theorem okWide_array {r : Reach} {b0 : Nat} {t e : TypeId} {v : Value} {n : Nat} (ht : P.underlying t = some (.array n e)) (h : Value.okWide P W r b0 t v) : ∃ cs, v = .agg cs ∧ cs.size = P.cellsOf t := by
  simp only [Value.okWide, ht] at h
  obtain ⟨cs, h1, h2, _⟩ := h
  exact ⟨cs, h1, h2⟩
theorem openArr2 {r : Reach} {b0 : Nat} {t e : TypeId} {k : IntKind} {v : Value} {d : DataW H} {ps : List MemPlace} (ht : P.underlying t = some (.array 2 e)) (he : P.underlying e = some (.int k)) (hce : P.cellsOf e = 1) (hct : P.cellsOf t = 2)
    (hv : Value.okWide P W r b0 t v) (h : DataW.Trod enc P W base spare held t v d ps) : ∃ n0 n1 : Int, v = .agg #[.int k n0, .int k n1] ∧ (Lit.int k n0).wf = true ∧ (Lit.int k n1).wf = true := by
  obtain ⟨cs, rfl, hsz⟩ := okWide_array ht hv
  obtain ⟨c0, c1, rfl⟩ := array2 (hsz.trans hct)
  obtain ⟨fuel, hf⟩ := h
  obtain ⟨xs, m, _, _, _, hl, hg⟩ := DataW.trod_array ht hf
  have g0 := hg 0 (by omega)
  have g1 := hg 1 (by omega)
  simp only [Value.cells, hce] at g0 g1
  rw [List.getElem?_eq_getElem (by omega)] at g0 g1
  obtain ⟨n0, e0, _, w0⟩ := DataW.trod_int he g0
  obtain ⟨n1, e1, _, w1⟩ := DataW.trod_int he g1
  simp at e0 e1
  subst e0; subst e1
  exact ⟨n0, n1, rfl, w0, w1⟩
theorem openInt2 {r : Reach} {b0 : Nat} {t : TypeId} {f0 f1 : Field} {k0 k1 : IntKind} {v : Value} {d : DataW H} {ps : List MemPlace} (hs : P.underlying t = some (.struct #[f0, f1])) (hone : oneCellFields P #[f0, f1] = true) (hC : P.cellsOf t = 2)
    (h0 : P.underlying f0.type = some (.int k0)) (h1 : P.underlying f1.type = some (.int k1))
    (hv : Value.okWide P W r b0 t v) (h : DataW.Trod enc P W base spare held t v d ps) : ∃ n0 n1 : Int, v = .agg #[.int k0 n0, .int k1 n1] ∧ (Lit.int k0 n0).wf = true ∧ (Lit.int k1 n1).wf = true := by
  obtain ⟨v0, v1, y0, y1, n, rfl, _, _, e0, e1⟩ := Go.Joins.open_agg2 hs hone hC hv h
  obtain ⟨n0, c0, _, w0⟩ := DataW.trod_int h0 e0
  obtain ⟨n1, c1, _, w1⟩ := DataW.trod_int h1 e1
  simp only [List.cons.injEq, and_true] at c0 c1
  subst c0; subst c1
  exact ⟨n0, n1, rfl, w0, w1⟩
end
end Go.Proofs.Ytpnejbdfkncjlaa
