/- What is proved: an argument that is a slice of spans, opened to the pairs that it reads as; no condition beyond those typed. -/
import Derived.Test.YtpgeohigdblooaaOpenFields
import Derived.Test.YtpgeohigdblooaaSpans
import Derived.SizedLaws
set_option linter.unusedVariables false
set_option linter.unusedSimpArgs false
namespace Go.Proofs.Ytpgeohigdblooaa
open Go.ChangeShapes Go.WideShapes Go.Deep Go.RowKit
theorem addr_plain {w : World} {x : Addr} {v : Value} (h0 : w.cell? (x.add 0) = some v) : ∃ b off, x = ⟨b, off, none⟩ := by
  obtain ⟨b, off, spot⟩ := x
  cases spot with
  | none => exact ⟨b, off, rfl⟩
  | some s =>
    exfalso
    have : (⟨b, off, some s⟩ : Addr).add 0 = ⟨b, off, some s⟩ := by simp [Addr.add]
    rw [this] at h0
    unfold World.cell? at h0
    split at h0 <;> simp at h0
theorem addr_add (b off j : Nat) : (⟨b, off, none⟩ : Addr).add j = ⟨b, off + j, none⟩ := by unfold Addr.add; split <;> simp_all
theorem openSpan {H : Type} {enc : TypeId × Value → H} {W : World} {A : Option Addr} {len cap : Nat} {d : DataW H} {ps : List MemPlace} {ts : List TypeId} {ds : List (DataW H)} {j : Nat}
    (hsz : (DataW.weightsEach Try.prog ts ds).all (· ≤ reachBytes) = true) (ht : ts[j]? = some 26) (hd : ds[j]? = some d)
    (h : DataW.Trod enc Try.prog W 0 (fun _ => true) true 26 (.slice A len cap) d ps) :
    ∃ T : List (Int × Int), RdS W A len T ∧ len ≤ 140737488355328 := by
  obtain ⟨fuel, hf⟩ := h
  rcases open_slice_fields Try.underlying26 Try.underlying36 (by kernel_rfl) (by kernel_rfl) hf with ⟨hcs, _⟩ | ⟨a, l, c, m, D, Pl, hcs, _, hl, hm, hmm, hx, hi⟩
  · simp [Value.cells] at hcs
    obtain ⟨rfl, rfl, rfl⟩ := hcs
    exact ⟨[], ⟨rfl, fun h => absurd h (by omega)⟩, by omega⟩
  · simp [Value.cells] at hcs
    obtain ⟨rfl, rfl, rfl⟩ := hcs
    have hmc : m = cap := by simpa using hmm
    subst hmc
    have hel : ∀ i, i < len → ∃ x : Int × Int, W.cell? (a.add (i * 2 + 0)) = some (.int .i32 x.1) ∧ W.cell? (a.add (i * 2 + 1)) = some (.int .i32 x.2) := by
      intro i hil
      obtain ⟨ys, n, _, _, _, hfield⟩ := hi i (by omega)
      obtain ⟨v0, y0, hc0, _, ht0⟩ := hfield 0 _ rfl
      obtain ⟨v1, y1, hc1, _, ht1⟩ := hfield 1 _ rfl
      obtain ⟨n0, e0, _, w0⟩ := DataW.trod_int Try.underlying21 ht0
      obtain ⟨n1, e1, _, w1⟩ := DataW.trod_int Try.underlying21 ht1
      simp only [List.cons.injEq, and_true] at e0 e1
      subst e0; subst e1
      exact ⟨⟨n0, n1⟩, hc0, hc1⟩
    have hsize : len * 8 ≤ reachBytes := by
      have h2 := sized_slice hsz ht (by rw [hd, (Prod.mk.inj hx).1]) Try.underlying26
      rw [show Try.prog.bytesOf 36 = 8 from by kernel_rfl] at h2
      simp only [List.length_map, List.length_range] at h2
      have : (len + (m - len)) * 8 ≤ reachBytes := h2
      omega
    have hreach := reachBytes_lt
    refine ⟨(List.range len).map fun i => if h : i < len then (hel i h).choose else (0, 0), ⟨by simp, fun h0 => ?_⟩, by omega⟩
    obtain ⟨b, off, rfl⟩ := addr_plain (hel 0 h0).choose_spec.1
    refine ⟨b, off, rfl, fun i hil => ?_⟩
    have hs := (hel i hil).choose_spec
    rw [show ((List.range len).map fun i => if h : i < len then (hel i h).choose else (0, 0)).getD i (0, 0) = (hel i hil).choose from by
      rw [List.getD_eq_getElem?_getD, List.getElem?_map, List.getElem?_range hil]
      simp [hil]]
    generalize (hel i hil).choose = y at hs ⊢
    rw [addr_add, addr_add] at hs
    exact ⟨hs.1, hs.2⟩
end Go.Proofs.Ytpgeohigdblooaa
