/- What is proved: what Write of package wire answers when it is called; conditions: the numbers are of their kind, the slice reads as it is said to. -/
import Derived.Test.YtgkiedbefogklaaWire5
set_option linter.unusedSimpArgs false
set_option linter.unusedVariables false
namespace Go.Proofs.Ytgkiedbefogklaa
open Go.RowKit
set_option maxRecDepth 100000
set_option maxHeartbeats 1000000
/-- The forms of the first k numbers. -/
def pre5 (f : Nat → Nat) : Nat → List Int
  | 0 => []
  | k + 1 => pre5 f k ++ uintB (f k)
theorem pre5_len (f : Nat → Nat) : ∀ k, (pre5 f k).length ≤ 11 * k
  | 0 => by simp [pre5]
  | k + 1 => by
    have h1 := pre5_len f k
    have h2 := uintB_len (f k)
    simp only [pre5, List.length_append]
    omega
theorem pre5_ok (f : Nat → Nat) (hf : ∀ k, f k < 18446744073709551616) : ∀ k, okB (pre5 f k)
  | 0 => okB.nil
  | k + 1 => (pre5_ok f hf k).app (uintB_ok (hf k))
/-- An instruction's form. -/
def writeS (o n a t : Nat) (d : List Int) : List Int := pre5 (fun k => [o, n, a, t, d.length].getD k 0) 5 ++ d
end Go.Proofs.Ytgkiedbefogklaa
