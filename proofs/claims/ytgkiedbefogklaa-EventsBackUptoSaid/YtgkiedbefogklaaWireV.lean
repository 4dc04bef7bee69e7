/- What is proved: an argument that is an instruction, by value, opened to what it reads as; no condition beyond those typed. -/
import Derived.Test.YtgkiedbefogklaaWireP
import Derived.Deep.Slices
import Derived.SizedLaws
import Derived.ProofKit
import Derived.OpenShut
import Derived.Laws.IdiomArrays
set_option linter.unusedVariables false
set_option linter.unusedSimpArgs false
namespace Go.Proofs.Ytgkiedbefogklaa
open Go Go.ChangeShapes Go.WideShapes Go.Deep Go.RowKit
set_option maxRecDepth 100000
theorem wfb {n : Int} (h : (Lit.int .u8 n).wf = true) : 0 ≤ n ∧ n ≤ 255 := by
  simp [Lit.wf, IntKind.min, IntKind.max, IntKind.bits, IntKind.signed] at h
  omega
theorem addr_plain {w : World} {x : Addr} {v : Value} (h0 : w.cell? (x.add 0) = some v) : ∃ b off, x = ⟨b, off, none⟩ := by
  obtain ⟨b, off, spot⟩ := x
  cases spot with
  | none => exact ⟨b, off, rfl⟩
  | some s =>
    exfalso
    have : (⟨b, off, some s⟩ : Addr).add 0 = ⟨b, off, some s⟩ := by simp [Addr.add]
    rw [this] at h0
    unfold World.cell? at h0
    split at h0 <;> simp at h0
theorem addr_add (b off j : Nat) : (⟨b, off, none⟩ : Addr).add j = ⟨b, off + j, none⟩ := by unfold Addr.add; split <;> simp_all
theorem weightsAll_mem {H : Type} {P : Program} {e : TypeId} {d : DataW H} {x : Nat} : ∀ {l : List (DataW H)}, d ∈ l → x ∈ d.weights P e → x ∈ DataW.weightsAll P e l
  | [], h, _ => by cases h
  | c :: r, h, hx => by
    unfold DataW.weightsAll
    rcases List.mem_cons.1 h with rfl | h
    · exact List.mem_append_left _ hx
    · exact List.mem_append_right _ (weightsAll_mem h hx)
theorem openBytes {H : Type} {enc : TypeId × Value → H} {W : World} {v : Value} {fuel : Nat} {x : DataW H × List MemPlace} (hf : DataW.trod enc Try.prog W 0 (fun _ => true) true fuel 24 [v] = some x) (hw : ∀ q ∈ x.1.weights Try.prog 24, q ≤ reachBytes) :
    ∃ ys, BB W v ys ∧ ys.length ≤ 140737488351232 := by
  have hreach := reachBytes_lt
  rcases open_ints Try.underlying24 Try.underlying5 (by kernel_rfl) hf with ⟨hcs, _⟩ | ⟨a, l, c, zs, hcs, hx1, hl, hm, hz, hx2, hcell, hwz⟩
  · simp only [List.cons.injEq, and_true] at hcs
    subst hcs
    exact ⟨[], BB.nil W, by simp⟩
  · simp only [List.cons.injEq, and_true] at hcs
    subst hcs
    have hzc : zs.length = c := by simpa using hz
    have hb : c * 1 ≤ reachBytes := by
      refine hw (c * 1) ?_
      rw [hx2]
      have e1 : (lits IntKind.u8 (List.take l zs) : List (DataW H)).length + (lits IntKind.u8 (List.drop l zs) : List (DataW H)).length = c := by simp [lits]; omega
      have e2 : Try.prog.bytesOf 5 = 1 := by kernel_rfl
      simp [DataW.weights, Try.underlying24, e1, e2]
    have hlen : (zs.take l).length = l := by rw [List.length_take]; omega
    have hrd := RdI.of_row (w := W) (k := .u8) (x := a) hl hzc hcell
    have hr2 : reachBytes ≤ 140737488351232 := by decide
    refine ⟨zs.take l, ⟨fun n hn => wfb (hwz n (List.mem_of_mem_take hn)), by omega, some a, c, by rw [hlen], by rw [hlen]; exact hrd, by simp, by omega, hm⟩, by omega⟩
theorem wf64 {n : Int} (h : (Lit.int .u64 n).wf = true) : 0 ≤ n ∧ n ≤ 18446744073709551615 := by
  simp [Lit.wf, IntKind.min, IntKind.max, IntKind.bits, IntKind.signed] at h
  omega
end Go.Proofs.Ytgkiedbefogklaa
