/- What is proved: for all times then and ms, the law ClockRound's pure form is true: ms later than then is ms since then; no condition beyond the kinds' bounds. -/
import Derived.Test.YtifophgaokoojaaPClockRoundx2
namespace Go.Proofs.Ytifophgaokoojaa.Pure
open Go.RowKit Go.Proofs.Ytifophgaokoojaa.PClockRound Go.Proofs.YtifophgaokoojaaW.PrintWords Go.Proofs.YtifophgaokoojaaW.PrintLast

theorem ClockRound_anchored : wayfarerlaw09_anchored.f = some true := by decide +kernel
theorem ClockRound_wrap (n : Int) : IntKind.u16.wrap n = n % 65536 := by simp [IntKind.wrap, IntKind.bits, IntKind.signed]
theorem ClockRound_bounds (n : Int) (h : (Lit.int .u16 n).wf = true) : 0 ≤ n ∧ n ≤ 65535 := by
  simpa [Lit.wf, IntKind.min, IntKind.max, IntKind.bits, IntKind.signed] using h

theorem ClockRound : wayfarerlaw09_ClockRound.Pure := by
  intro a0 a1 h0 h1
  have b0 := ClockRound_bounds a0 h0
  have b1 := ClockRound_bounds a1 h1
  unfold wayfarerlaw09_ClockRound.f
  rw [ClockRound_anchored]
  simp only [Option.bind_some, if_true, clock_Since.f, ClockRound_wrap]
  rw [if_pos (by omega), show a0 - a0 = 0 by omega]
  rfl

end Go.Proofs.Ytifophgaokoojaa.Pure
