/- What is proved: the law WireEvents returns true when it is called; conditions: the events and the bytes read as they are said to, the events are not too many. -/
import Derived.Test.YtgkiedbefogklaaWireRD
set_option linter.unusedSimpArgs false
set_option linter.unusedVariables false
namespace Go.Proofs.Ytgkiedbefogklaa
open Go.RowKit
set_option maxRecDepth 100000
set_option maxHeartbeats 8000000
theorem mayE_any (e : Event) (v : Value) (w : World) (hv : BB w v e.bs) (hk : e.ok) : Calls Try.prog 33 #[.agg (erow ⟨e, v⟩)] w fun r w' => r = .returned (.bool (mayS e)) ∧ Below w.heap.size w w' := by
  obtain ⟨k, bs, c, r, a⟩ := e
  obtain ⟨hk0, _, _, _⟩ := hk
  obtain ⟨_, hl, A, cap, rfl, _, _, hlc, hcm⟩ := hv
  exact may_any k c r a A bs.length cap w hk0 hl hcm hlc
theorem rmayE_any (e : Event) (v : Value) (w : World) (hv : BB w v e.bs) (hk : e.ok) : Calls Try.prog 23 #[.agg (erow ⟨e, v⟩)] w fun r w' => r = .returned (.bool (mayS e)) ∧ Below w.heap.size w w' := by
  obtain ⟨k, bs, c, r, a⟩ := e
  obtain ⟨hk0, _, _, _⟩ := hk
  obtain ⟨_, hl, A, cap, rfl, _, _, hlc, hcm⟩ := hv
  exact rmay_any k c r a A bs.length cap w hk0 hl hcm hlc
theorem writeEvS_ok {w : World} {v : Value} {E : List Event} (h : EvL w v E) : okB (writeEvS E).1 ∧ (writeEvS E).1.length ≤ 140737488355328 := by
  by_cases h0 : (writeEvS E).2 = 0
  · obtain ⟨h1, h2, h3, h4⟩ := writeEv_good h0
    rw [h2]
    refine ⟨evP_okB (by omega) (fun j hj => ?_) E.length (fun j hj => h1 _ ?_) (Nat.le_refl _), by omega⟩
    · obtain ⟨_, A, c, rfl, _, _, _, hi⟩ := h
      obtain ⟨b, off, _, u, _, _, _, _, _, hu, hok⟩ := hi j hj
      exact ⟨hu.ok, hok⟩
    · rw [List.getD_eq_getElem?_getD, List.getElem?_eq_getElem hj]; exact List.getElem_mem _
  · have : (writeEvS E).1 = [] := by
      unfold writeEvS at h0 ⊢
      by_cases h1 : E.any (fun e => !mayS e) = true
      · rw [if_pos h1]
      · rw [if_neg h1] at h0 ⊢
        by_cases h2 : 65536 < (evP E E.length).length ∨ 4096 < E.length
        · rw [if_pos h2]
        · rw [if_neg h2] at h0
          exact absurd rfl h0
    rw [this]
    exact ⟨okB.nil, by simp⟩
end Go.Proofs.Ytgkiedbefogklaa
