/- What is proved: a block by value, opened; no condition beyond those typed. -/
import Derived.Test.YtppponobefljgaaAesC
import Derived.ProofKit
import Derived.OpenShut
import Derived.Laws.IdiomArrays
import Derived.Lib.SmallJoins
set_option linter.unusedVariables false
set_option linter.unusedSimpArgs false
namespace Go.Proofs.Ytppponobefljgaa
open Go Go.ChangeShapes Go.WideShapes Go.RowKit Go.Joins Go.Deep
section
variable {H : Type} {enc : TypeId × Value → H} {W : World} {base : Nat} {spare : Nat → Bool} {held : Bool}
def byteOf : Option Value → Int
  | some (.int _ n) => n
  | _ => 0
theorem openBlock {r : Reach} {b0 : Nat} {v : Value} {d : DataW H} {ps : List MemPlace}
    (hv : Value.okWide Try.prog W r b0 28 v) (h : DataW.Trod enc Try.prog W base spare held 28 v d ps) : ∃ f, v = .agg (rwb 16 f) ∧ By f := by
  have ho := hv
  simp only [Value.okWide, Try.underlying28] at ho
  obtain ⟨cs, rfl, hsz, _⟩ := ho
  have hce : Try.prog.cellsOf 5 = 1 := by kernel_rfl
  have hct : Try.prog.cellsOf 28 = 16 := by kernel_rfl
  obtain ⟨fuel, hf⟩ := h
  obtain ⟨xs, m, _, _, _, hl, hg⟩ := DataW.trod_array Try.underlying28 hf
  have hc : ∀ j, j < 16 → ∃ n : Int, cs[j]? = some (.int .u8 n) ∧ 0 ≤ n ∧ n ≤ 255 := by
    intro j hj
    have g := hg j (by omega)
    simp only [Value.cells, hce, Nat.mul_one] at g
    rw [List.getElem?_eq_getElem (by omega)] at g
    obtain ⟨n, e, _, w⟩ := DataW.trod_int Try.underlying5 g
    have hjs : j < cs.size := by omega
    have e2 : cs.extract j (j + 1) = #[.int .u8 n] := by
      apply Array.toList_inj.1
      rw [← e]
      simp [Array.toList_extract]
    have e3 : cs[j]? = some (.int .u8 n) := by
      have := congrArg (fun a : Array Value => a[0]?) e2
      rw [Array.getElem?_eq_getElem hjs]
      simp [Array.getElem?_extract, hjs] at this
      rw [this.2]
    exact ⟨n, e3, wf_u8 w⟩
  refine ⟨fun j => byteOf cs[j]?, ?_, ?_⟩
  · congr 1
    apply Array.ext_getElem?
    intro j
    by_cases hj : j < 16
    · obtain ⟨n, e, _⟩ := hc j hj
      rw [rwb_get _ hj, e]
      rfl
    · rw [Array.getElem?_eq_none (by omega), Array.getElem?_eq_none (by rw [rwb_size]; omega)]
  · intro j hj
    obtain ⟨n, e, h1⟩ := hc j hj
    show 0 ≤ byteOf cs[j]? ∧ byteOf cs[j]? ≤ 255
    rw [e]
    exact h1
end
end Go.Proofs.Ytppponobefljgaa
