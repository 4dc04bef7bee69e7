/- What is proved: == of two styles; conditions: their flags are eight. -/
import Derived.Test.YtlejmllacikmeaaCell3
import Derived.Laws.StructEq
set_option linter.unusedSimpArgs false
set_option linter.unusedVariables false
namespace Go.Proofs.Ytlejmllacikmeaa
open Go.RowKit
set_option maxRecDepth 100000
set_option maxHeartbeats 4000000
theorem eqStyV (w : World) (f0 g0 f1 g1 : Int) (a0 a1 a2 a3 a4 a5 a6 a7 c0 c1 c2 c3 c4 c5 c6 c7 : Bool) :
    (binOp .eql 23 (.agg #[.int .i64 f0, .int .i64 f1, .bool a0, .bool a1, .bool a2, .bool a3, .bool a4, .bool a5, .bool a6, .bool a7]) (.agg #[.int .i64 g0, .int .i64 g1, .bool c0, .bool c1, .bool c2, .bool c3, .bool c4, .bool c5, .bool c6, .bool c7])).run Try.prog w = .ok (.bool (f0 == g0 && (f1 == g1 && (a0 == c0 && (a1 == c1 && (a2 == c2 && (a3 == c3 && (a4 == c4 && (a5 == c5 && (a6 == c6 && (a7 == c7))))))))))) w := by
  go_simp
  by_cases h0 : f0 = g0
  · by_cases h1 : f1 = g1
    · by_cases h2 : a0 = c0
      · by_cases h3 : a1 = c1
        · by_cases h4 : a2 = c2
          · by_cases h5 : a3 = c3
            · by_cases h6 : a4 = c4
              · by_cases h7 : a5 = c5
                · by_cases h8 : a6 = c6
                  · by_cases h9 : a7 = c7
                    · simp [h0, h1, h2, h3, h4, h5, h6, h7, h8, h9]
                    · simp [h0, h1, h2, h3, h4, h5, h6, h7, h8, h9]
                  · simp [h0, h1, h2, h3, h4, h5, h6, h7, h8]
                · simp [h0, h1, h2, h3, h4, h5, h6, h7]
              · simp [h0, h1, h2, h3, h4, h5, h6]
            · simp [h0, h1, h2, h3, h4, h5]
          · simp [h0, h1, h2, h3, h4]
        · simp [h0, h1, h2, h3]
      · simp [h0, h1, h2]
    · simp [h0, h1]
  · simp [h0]
theorem tb_ext {b c : Nat} (hb : b < 256) (hc : c < 256) (h : tb b 0 = tb c 0 ∧ tb b 1 = tb c 1 ∧ tb b 2 = tb c 2 ∧ tb b 3 = tb c 3 ∧ tb b 4 = tb c 4 ∧ tb b 5 = tb c 5 ∧ tb b 6 = tb c 6 ∧ tb b 7 = tb c 7) : b = c := by
  have key : ∀ b : Fin 256, ∀ c : Fin 256, tb b.val 0 = tb c.val 0 → tb b.val 1 = tb c.val 1 → tb b.val 2 = tb c.val 2 → tb b.val 3 = tb c.val 3 → tb b.val 4 = tb c.val 4 → tb b.val 5 = tb c.val 5 → tb b.val 6 = tb c.val 6 → tb b.val 7 = tb c.val 7 → b.val = c.val := by decide +kernel
  obtain ⟨h0, h1, h2, h3, h4, h5, h6, h7⟩ := h
  exact key ⟨b, hb⟩ ⟨c, hc⟩ h0 h1 h2 h3 h4 h5 h6 h7
def eqS (s t : Sty) : Bool := s.fg == t.fg && (s.bg == t.bg && s.b == t.b)
theorem eqS_iff (s t : Sty) : eqS s t = true ↔ s = t := by
  obtain ⟨a, b, c⟩ := s
  obtain ⟨d, e, f⟩ := t
  simp [eqS]
theorem eqSty (w : World) (s t : Sty) (hs : s.b < 256) (ht : t.b < 256) : (binOp .eql 23 s.val t.val).run Try.prog w = .ok (.bool (eqS s t)) w := by
  refine (eqStyV w s.fg t.fg s.bg t.bg _ _ _ _ _ _ _ _ _ _ _ _ _ _ _ _).trans ?_
  congr 2
  rw [Bool.eq_iff_iff]
  simp only [eqS, Bool.and_eq_true, beq_iff_eq]
  refine ⟨fun h => ⟨h.1, h.2.1, tb_ext hs ht h.2.2⟩, fun h => ⟨h.1, h.2.1, by rw [h.2.2]; simp⟩⟩
theorem grdSty (w : World) (op : BinOp) (x y : Operand) (s t : Sty) : (eqGuard op 23 x y s.val t.val).run Try.prog w = .ok () w :=
  run_eqGuard_agg w op 23 x y s.row t.row (by kernel_rfl)
theorem apply_lt {s : Sty} {l : List Int} (h : s.b < 256) : (applyS s l).b < 256 := by
  have key : ∀ (f : Nat) (s : Sty) (l : List Int), s.b < 256 → (aplF f s l).b < 256 := by
    intro f
    induction f with
    | zero => intro s l h; exact h
    | succ f ih =>
      intro s l h
      cases l with
      | nil => exact h
      | cons n ps =>
        unfold aplF
        split
        · exact ih _ _ (by decide)
        · split
          · split
            · refine ih _ _ ?_
              split
              · split <;> exact h
              · exact h
            · split
              · exact ih _ _ h
              · exact ih _ _ h
          · exact ih _ _ (stepP_lt h)
  unfold applyS
  split
  · decide
  · exact key _ _ _ h
end Go.Proofs.Ytlejmllacikmeaa
