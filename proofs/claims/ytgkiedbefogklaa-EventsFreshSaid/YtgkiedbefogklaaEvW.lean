/- What is proved: how many events an argument that is a slice of events may hold at most; no condition beyond those typed. -/
import Derived.Test.YtgkiedbefogklaaWireY
set_option linter.unusedVariables false
set_option linter.unusedSimpArgs false
namespace Go.Proofs.Ytgkiedbefogklaa
open Go Go.ChangeShapes Go.WideShapes Go.Deep Go.RowKit
set_option maxRecDepth 100000
theorem eventsLen {H : Type} {enc : TypeId × Value → H} {W : World} {A : Option Addr} {len cap : Nat} {d : DataW H} {ps : List MemPlace} {ts : List TypeId} {ds : List (DataW H)} {j : Nat}
    (hsz : (DataW.weightsEach Try.prog ts ds).all (· ≤ reachBytes) = true) (ht : ts[j]? = some 22) (hd : ds[j]? = some d)
    (h : DataW.Trod enc Try.prog W 0 (fun _ => true) true 22 (.slice A len cap) d ps) : len ≤ 2513169434916 := by
  obtain ⟨fuel, hf⟩ := h
  rcases open_slice_fields Try.underlying22 Try.underlying48 (by kernel_rfl) (by kernel_rfl) hf with ⟨hcs, _⟩ | ⟨a, l, c, m, D, Pl, hcs, _, hl, hm, hmm, hx, hi⟩
  · simp [Value.cells] at hcs
    obtain ⟨rfl, rfl, rfl⟩ := hcs
    omega
  · simp [Value.cells] at hcs
    obtain ⟨rfl, rfl, rfl⟩ := hcs
    have hx1 : d = .slice ((List.range len).map D) ((List.range (m - len)).map fun j => D (len + j)) := (Prod.mk.inj hx).1
    have h2 := sized_slice hsz ht (by rw [hd, hx1]) Try.underlying22
    rw [show Try.prog.bytesOf 48 = 56 from by kernel_rfl] at h2
    simp only [List.length_map, List.length_range] at h2
    have hr2 : reachBytes ≤ 140737488355328 := by decide
    omega
theorem openEventsL {H : Type} {enc : TypeId × Value → H} {W : World} {A : Option Addr} {len cap : Nat} {d : DataW H} {ps : List MemPlace} {ts : List TypeId} {ds : List (DataW H)} {j : Nat}
    (hsz : (DataW.weightsEach Try.prog ts ds).all (· ≤ reachBytes) = true) (ht : ts[j]? = some 22) (hd : ds[j]? = some d)
    (h : DataW.Trod enc Try.prog W 0 (fun _ => true) true 22 (.slice A len cap) d ps) :
    ∃ E : List Event, EvL W (.slice A len cap) E ∧ E.length ≤ 2513169434916 := by
  obtain ⟨E, h1, h2⟩ := openEvents hsz ht hd h
  exact ⟨E, h1, by rw [h2]; exact eventsLen hsz ht hd h⟩
end Go.Proofs.Ytgkiedbefogklaa
