/- What is proved: what the function that Read hands to caught answers, or how it panics; conditions: those typed. -/
import Derived.Test.YtgkiedbefogklaaWireG
set_option linter.unusedSimpArgs false
set_option linter.unusedVariables false
namespace Go.Proofs.Ytgkiedbefogklaa
open Go.RowKit
set_option maxRecDepth 100000
set_option maxHeartbeats 8000000
theorem skips_st {o : Oper} {a : Act} {ty : TypeId} {x y : Operand} {W : World} {g i : Nat} {row row' : Array Value} {t : TypeId} {v : Value} {R : World → Prop} (hs : ∀ W : World, ∀ a : Addr, (W.cell? a).isSome = true → W.frozen? a = false → (Instr.storeAt ty (.pointer (some a)) v).run Try.prog W = .ok () (W.setCell a v))
    (ho : o.op = .store ty x y) (hx : a.eval x = .pointer (some ⟨g, i, none⟩)) (hy : a.eval y = v) (hi : i < row.size) (hr : row.setIfInBounds i v = row') (hW : W.heap[g]? = some (.cells row t (0, 0))) (hR : ∀ W', Only g (.cells row' t (0, 0)) W W' → R W') :
    ∃ W', (execOp a.eval o).run Try.prog W = .ok .skip W' ∧ R W' := by
  obtain ⟨W', h1, h2⟩ := exec_st1 hs ho hx hy hi hr hW
  exact ⟨W', h1, hR W' h2⟩
theorem Inv.ofSet {w : World} {S : Nat → Prop} {g i : Nat} {u : Value} (hS : S g) : Inv w S gh0 (w.setCell ⟨g, i, none⟩ u) where
  os := rfl
  tape := rfl
  output := rfl
  size := by simp
  far k _ hk := heap_setCell_other _ ⟨_, _, _⟩ _ _ (by intro e; subst e; exact hk hS)
  here t g o e := by cases e
  apart t t' g g' o o' e := by cases e
theorem number_k (Bv : Nat) (bs : List Int) (k : Nat) (w : World) (h : Rd w Bv (rs bs k)) : Calls Try.prog 52 #[.pointer (some ⟨Bv, 0, none⟩)] w fun e w' => (eru bs k = 0 ∧ ∃ nv, nu bs k = nv ∧ e = .returned (.int .u64 nv) ∧ Rd w' Bv (rs bs (k + 1)) ∧ w.grownBy w' (some Bv) ∧ nv < 18446744073709551616) ∨ (eru bs k ≠ 0 ∧ e = .panicked (panE (eru bs k)) ∧ w' = w) := by
  have hl : okB (rs bs k) := by obtain ⟨_, _, hb, _⟩ := h; exact hb.ok
  refine (number_any Bv (rs bs k) w h).mono ?_
  rintro e w' (⟨g1, rfl, g3, g4⟩ | ⟨g1, rfl, rfl⟩)
  · exact .inl ⟨g1, _, rfl, rfl, g3, g4, (readS_good hl g1).2.2.1⟩
  · exact .inr ⟨g1, rfl, rfl⟩
end Go.Proofs.Ytgkiedbefogklaa
