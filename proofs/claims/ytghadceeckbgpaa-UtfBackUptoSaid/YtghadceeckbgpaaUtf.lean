/- What is proved: what bounds of package utf answers when it is called; conditions: the byte is of its kind. -/
import Derived.Test.YtghadceeckbgpaaRunes
import Derived.Test.YtghadceeckbgpaaClone
set_option linter.unusedSimpArgs false
set_option linter.unusedVariables false
namespace Go.Proofs.Ytghadceeckbgpaa
open Go.RowKit
set_option maxRecDepth 100000
set_option maxHeartbeats 4000000
/-- How long the form is that a byte begins; 0: none is begun. -/
def szS (b : Int) : Nat := if b < 128 then 1 else if b < 194 ∨ 244 < b then 0 else if b < 224 then 2 else if b < 240 then 3 else 4
/-- From what to what the second byte goes. -/
def loS (b : Int) : Int := if b = 224 then 160 else if b = 240 then 144 else 128
def hiS (b : Int) : Int := if b = 237 then 159 else if b = 244 then 143 else 191
theorem bounds_any (b : Int) (w : World) (hb : 0 ≤ b ∧ b ≤ 255) :
    Calls Try.prog 33 #[.int .u8 b] w fun e w' => e = .returned (.tuple #[.int .i64 (szS b), .agg #[.int .u8 (loS b), .int .u8 (hiS b)]]) ∧ Below w.heap.size w w' := by
  rcases (by omega : b < 128 ∨ (128 ≤ b ∧ b < 194) ∨ 244 < b ∨ (194 ≤ b ∧ b < 224) ∨ b = 224 ∨ b = 237 ∨ (224 < b ∧ b < 240 ∧ b ≠ 237) ∨ b = 240 ∨ b = 244 ∨ (240 < b ∧ b < 244)) with h | h | h | h | h | h | h | h | h | h
  all_goals
    obtain ⟨n, hn⟩ : ∃ n, szS b = n := ⟨_, rfl⟩
    obtain ⟨lo, hlo⟩ : ∃ n, loS b = n := ⟨_, rfl⟩
    obtain ⟨hi, hhi⟩ : ∃ n, hiS b = n := ⟨_, rfl⟩
    rw [hn, hlo, hhi]
    unfold szS at hn
    unfold loS at hlo
    unfold hiS at hhi
    try subst h
    simp (disch := omega) only [if_pos, if_neg] at hn hlo hhi
    subst hn hlo hhi
    go_enter Try.func33, Try.ntmps33
    go_wp2_with fail
    go_region
    go_wp2_with fail
    refine bodyPost_ret (v := .tuple #[.int .i64 _, .agg #[.int .u8 _, .int .u8 _]]) (by simp [results, Try.results33, go_sem]; exact ⟨rfl, rfl, rfl⟩) rfl ?_
    exact ⟨rfl, by (repeat' (first | (with_reducible exact Below.refl _ _) | (with_reducible assumption) | (with_reducible refine Below.alloc ?_ ?_ _) | (with_reducible refine below_setRow ?_ ?_ _) | (with_reducible refine bl_drew ?_) | (with_reducible refine bl_drewN ?_ _) | (with_reducible refine Below.setCell ?_ ?_ _) | (with_reducible refine bl_then ?_ ?_ hb) | (with_reducible refine bl_then ?_ ?_ hb1) | (with_reducible refine bl_then ?_ ?_ hb2) | (with_reducible refine bl_then ?_ ?_ hb3) | (with_reducible refine bl_then ?_ ?_ hb4) | (with_reducible refine bl_then ?_ ?_ hb5) | (with_reducible refine bl_then ?_ ?_ hb6) | (with_reducible refine bl_then ?_ ?_ hb7) | (with_reducible refine bl_then ?_ ?_ hb8) | (with_reducible exact Nat.le_refl _) | omega | (simp only [World.size_alloc, World.size_setCell, World.size_drew, size_setRow]; omega) | (simp; omega) | (simp; done)))⟩
end Go.Proofs.Ytghadceeckbgpaa
