/- What is proved: an argument that is a slice of bools, opened to what it reads as; no condition beyond those typed. -/
import Derived.Test.YtghadceeckbgpaaUtfR5
import Derived.Deep.Slices
import Derived.SizedLaws
import Derived.ProofKit
import Derived.OpenShut
set_option linter.unusedVariables false
set_option linter.unusedSimpArgs false
namespace Go.Proofs.Ytghadceeckbgpaa
open Go.ChangeShapes Go.WideShapes Go.Deep Go.RowKit
theorem addr_plain {w : World} {x : Addr} {v : Value} (h0 : w.cell? (x.add 0) = some v) : ∃ b off, x = ⟨b, off, none⟩ := by
  obtain ⟨b, off, spot⟩ := x
  cases spot with
  | none => exact ⟨b, off, rfl⟩
  | some s =>
    exfalso
    have : (⟨b, off, some s⟩ : Addr).add 0 = ⟨b, off, some s⟩ := by simp [Addr.add]
    rw [this] at h0
    unfold World.cell? at h0
    split at h0 <;> simp at h0
theorem addr_add (b off j : Nat) : (⟨b, off, none⟩ : Addr).add j = ⟨b, off + j, none⟩ := by unfold Addr.add; split <;> simp_all
theorem openBools {H : Type} {enc : TypeId × Value → H} {W : World} {A : Option Addr} {len cap : Nat} {d : DataW H} {ps : List MemPlace} (h : DataW.Trod enc Try.prog W 0 (fun _ => true) true 37 (.slice A len cap) d ps) :
    ∃ es, RdO W A len es ∧ len ≤ 9223372036854775807 := by
  obtain ⟨fuel, hf⟩ := h
  rcases open_slice Try.underlying37 hf with ⟨hcs, _⟩ | ⟨a, l, c, m, n, D, Pl, hcs, _, hl, hm, hmm, hx, hi⟩
  · simp [Value.cells] at hcs
    obtain ⟨rfl, rfl, rfl⟩ := hcs
    exact ⟨[], ⟨rfl, fun h => absurd h (by omega)⟩, by omega⟩
  · simp [Value.cells] at hcs
    obtain ⟨rfl, rfl, rfl⟩ := hcs
    have hmc : m = cap := by simpa using hmm
    subst hmc
    have ce : Try.prog.cellsOf 4 = 1 := by kernel_rfl
    have hel : ∀ i, i < len → ∃ e : Bool, W.cell? (a.add i) = some (.bool e) := by
      intro i hil
      obtain ⟨cs', hc, htr⟩ := hi i (by omega)
      rw [ce] at hc
      obtain ⟨_, hl1, hat⟩ := World.cells?_some hc
      obtain ⟨v, rfl⟩ : ∃ v, cs' = [v] := by
        match cs', hl1 with
        | [v], _ => exact ⟨v, rfl⟩
      have h0 := hat 0 (by omega)
      rw [Go.Deep.add_add, Nat.add_zero, Nat.mul_one] at h0
      obtain ⟨e, he, _⟩ := DataW.trod_bool Try.underlying4 htr
      simp only [List.cons.injEq, and_true] at he
      subst he
      exact ⟨e, by simpa using h0⟩
    have eL : ∀ i (hil : i < len), ((List.range len).map fun i => if h : i < len then (hel i h).choose else false).getD i false = (hel i hil).choose := fun i hil => by
      rw [List.getD_eq_getElem?_getD, List.getElem?_map, List.getElem?_range hil]
      simp [hil]
    refine ⟨(List.range len).map fun i => if h : i < len then (hel i h).choose else false, ⟨by simp, fun hp => ?_⟩, by unfold maxLen at hm; omega⟩
    obtain ⟨e0, he0⟩ := hel 0 hp
    obtain ⟨b, off, rfl⟩ := addr_plain he0
    rw [addr_add] at he0
    refine ⟨b, off, rfl, block_lt_of_cell he0, fun j hj => ?_⟩
    have hs := (hel j hj).choose_spec
    rw [eL j hj]
    generalize (hel j hj).choose = e at hs ⊢
    rw [addr_add] at hs
    exact hs
end Go.Proofs.Ytghadceeckbgpaa
