/- What is proved: what Read of package wire answers when it is called; conditions: the slice reads as it is said to. -/
import Derived.Test.YtgkiedbefogklaaWireH
set_option linter.unusedSimpArgs false
set_option linter.unusedVariables false
namespace Go.Proofs.Ytgkiedbefogklaa
open Go.RowKit
set_option maxRecDepth 100000
set_option maxHeartbeats 8000000
theorem results_cs {fn : Func} {p q : Tmp} {ty : TypeId} (h : fn.results = #[.cell p ty, .tmp q]) {tmps : Array Value} {w : World} {g : Nat} {v : Value} (hp : tmps.getD p undef = .pointer (some ⟨g, 0, none⟩)) (hl : (loadVar ty ⟨g, 0, none⟩).run Try.prog w = .ok v w) :
    (results fn tmps).run Try.prog w = .ok (.tuple #[v, tmps.getD q undef]) w := by
  have hp' : tmps[p]?.getD undef = .pointer (some ⟨g, 0, none⟩) := by rw [← hp]; simp
  simp only [results, h]
  simp [Sem.run_bind, Result.andThen, hp', asAddr, hl]
theorem xr_zero (bs : List Int) (u : Value) : xr bs 0 u = #[.int .u64 0, .int .u64 0, .int .u64 0, .int .u64 0, u] := by simp [xr]
theorem xr_four (bs : List Int) (u : Value) : xr bs 4 u = #[.int .u64 (nu bs 0 : Int), .int .u64 (nu bs 1 : Int), .int .u64 (nu bs 2 : Int), .int .u64 (nu bs 3 : Int), u] := by simp [xr]
theorem OwB.form {w : World} {b : Nat} {u : Value} {xs : List Int} (h : OwB w b u xs) : ∃ A n c, u = .slice A n c := by
  obtain ⟨_, ⟨h1, _⟩ | ⟨g, cap, cur, h1, _⟩⟩ := h
  · exact ⟨none, 0, 0, h1⟩
  · exact ⟨_, _, _, h1⟩
end Go.Proofs.Ytgkiedbefogklaa
