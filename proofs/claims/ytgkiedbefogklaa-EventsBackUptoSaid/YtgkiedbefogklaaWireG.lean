/- What is proved: what the function that Read hands to caught answers, or how it panics; conditions: those typed. -/
import Derived.Test.YtgkiedbefogklaaWireF
set_option linter.unusedSimpArgs false
set_option linter.unusedVariables false
namespace Go.Proofs.Ytgkiedbefogklaa
open Go.RowKit
set_option maxRecDepth 100000
set_option maxHeartbeats 8000000
theorem Inv.then {w0 w1 w2 : World} {S S' : Nat → Prop} {γ : Gh} (h : Inv w0 S gh0 w1) (k : Inv w1 S' γ w2) (hS : ∀ g, S' g → g < w0.heap.size → S g) : Inv w0 S gh0 w2 where
  os := k.os.trans h.os
  tape := k.tape.trans h.tape
  output := k.output.trans h.output
  size := Nat.le_trans h.size k.size
  far g hg hs := (k.far g (Nat.lt_of_lt_of_le hg h.size) (fun h' => hs (hS g h' hg))).trans (h.far g hg hs)
  here t g o e := by cases e
  apart t t' g g' o o' e := by cases e
theorem Inv.ofBelow {w w1 : World} {S : Nat → Prop} (hb : Below w.heap.size w w1) : Inv w S gh0 w1 where
  os := hb.os
  tape := hb.tape
  output := hb.output
  size := hb.size
  far g hg _ := hb.block g hg
  here t g o e := by cases e
  apart t t' g g' o o' e := by cases e
theorem Inv.ofGrown {w w1 : World} {S : Nat → Prop} {x : Option Nat} (h : w.grownBy w1 x) (hS : ∀ g, x = some g → S g) : Inv w S gh0 w1 where
  os := h.os
  tape := h.tape
  output := h.output
  size := h.size
  far k hk hn := h.block k hk (fun e => hn (hS k e.symm))
  here t g o e := by cases e
  apart t t' g g' o o' e := by cases e
theorem Inv.wide {w w1 : World} {S S' : Nat → Prop} (h : Inv w S gh0 w1) (hS : ∀ g, S g → S' g) : Inv w S' gh0 w1 where
  os := h.os
  tape := h.tape
  output := h.output
  size := h.size
  far g hg hn := h.far g hg (fun h' => hn (hS g h'))
  here t g o e := by cases e
  apart t t' g g' o o' e := by cases e
/-- The bytes that are left behind k numbers. -/
def rs (bs : List Int) : Nat → List Int
  | 0 => bs
  | k + 1 => (rs bs k).drop (readS (rs bs k)).2.1
def nu (bs : List Int) (k : Nat) : Nat := (readS (rs bs k)).1
def eru (bs : List Int) (k : Nat) : Nat := (readS (rs bs k)).2.2
/-- The error that reading an instruction ends with. -/
def readE (bs : List Int) : Nat :=
  if eru bs 0 ≠ 0 then eru bs 0 else if eru bs 1 ≠ 0 then eru bs 1 else if eru bs 2 ≠ 0 then eru bs 2 else if eru bs 3 ≠ 0 then eru bs 3 else if eru bs 4 ≠ 0 then eru bs 4
  else if 65536 < nu bs 4 then 8 else if (rs bs 5).length < nu bs 4 then 7 else if (rs bs 5).drop (nu bs 4) ≠ [] then 8 else 0
theorem readE_num {bs : List Int} {k : Nat} (hk : k ≤ 4) (h : ∀ j, j < k → eru bs j = 0) (he : eru bs k ≠ 0) : readE bs = eru bs k := by
  unfold readE
  rcases (by omega : k = 0 ∨ k = 1 ∨ k = 2 ∨ k = 3 ∨ k = 4) with rfl | rfl | rfl | rfl | rfl
  · rw [if_pos he]
  · rw [if_neg (by simp [h 0 (by omega)]), if_pos he]
  · rw [if_neg (by simp [h 0 (by omega)]), if_neg (by simp [h 1 (by omega)]), if_pos he]
  · rw [if_neg (by simp [h 0 (by omega)]), if_neg (by simp [h 1 (by omega)]), if_neg (by simp [h 2 (by omega)]), if_pos he]
  · rw [if_neg (by simp [h 0 (by omega)]), if_neg (by simp [h 1 (by omega)]), if_neg (by simp [h 2 (by omega)]), if_neg (by simp [h 3 (by omega)]), if_pos he]
theorem readE_rest {bs : List Int} (h : ∀ j, j < 5 → eru bs j = 0) : readE bs = if 65536 < nu bs 4 then 8 else if (rs bs 5).length < nu bs 4 then 7 else if (rs bs 5).drop (nu bs 4) ≠ [] then 8 else 0 := by
  unfold readE
  rw [if_neg (by simp [h 0 (by omega)]), if_neg (by simp [h 1 (by omega)]), if_neg (by simp [h 2 (by omega)]), if_neg (by simp [h 3 (by omega)]), if_neg (by simp [h 4 (by omega)])]
/-- The instruction's variable, as it is written. -/
def xr (bs : List Int) (j : Nat) (u : Value) : Array Value := #[.int .u64 (if 1 ≤ j then (nu bs 0 : Int) else 0), .int .u64 (if 2 ≤ j then (nu bs 1 : Int) else 0), .int .u64 (if 3 ≤ j then (nu bs 2 : Int) else 0), .int .u64 (if 4 ≤ j then (nu bs 3 : Int) else 0), u]
def StK (A : Nat → World → Prop) (γ : Gh) (W : World) : Prop :=
  match γ 0 with
  | some (n, _) => A n W
  | none => False
def gk (n : Nat) : Option (Nat × Obj) := some (n, .cells #[] 0 (0, 0))
theorem stK {A : Nat → World → Prop} {γ : Gh} {W : World} {n : Nat} (h : γ 0 = gk n) : StK A γ W ↔ A n W := by
  unfold StK; rw [h]; exact Iff.rfl
theorem st_u64 (x : Int) (W : World) (a : Addr) (h1 : (W.cell? a).isSome = true) (h2 : W.frozen? a = false) : (Instr.storeAt 59 (.pointer (some a)) (.int .u64 x)).run Try.prog W = .ok () (W.setCell a (.int .u64 x)) := by
  obtain ⟨u, hu⟩ := Option.isSome_iff_exists.1 h1
  go_simp
end Go.Proofs.Ytgkiedbefogklaa
