/- What is proved: what the function that Read hands to caught answers, or how it panics; conditions: those typed. -/
import Derived.Test.YtclnohifgjjngaaWireF
set_option linter.unusedSimpArgs false
set_option linter.unusedVariables false
namespace Go.Proofs.Ytclnohifgjjngaa
open Go.RowKit
set_option maxRecDepth 100000
set_option maxHeartbeats 8000000
theorem Inv.then {w0 w1 w2 : World} {S S' : Nat → Prop} {γ : Gh} (h : Inv w0 S gh0 w1) (k : Inv w1 S' γ w2) (hS : ∀ g, S' g → g < w0.heap.size → S g) : Inv w0 S gh0 w2 where
  os := k.os.trans h.os
  tape := k.tape.trans h.tape
  output := k.output.trans h.output
  size := Nat.le_trans h.size k.size
  far g hg hs := (k.far g (Nat.lt_of_lt_of_le hg h.size) (fun h' => hs (hS g h' hg))).trans (h.far g hg hs)
  here t g o e := by cases e
  apart t t' g g' o o' e := by cases e
theorem Inv.ofBelow {w w1 : World} {S : Nat → Prop} (hb : Below w.heap.size w w1) : Inv w S gh0 w1 where
  os := hb.os
  tape := hb.tape
  output := hb.output
  size := hb.size
  far g hg _ := hb.block g hg
  here t g o e := by cases e
  apart t t' g g' o o' e := by cases e
theorem Inv.ofGrown {w w1 : World} {S : Nat → Prop} {x : Option Nat} (h : w.grownBy w1 x) (hS : ∀ g, x = some g → S g) : Inv w S gh0 w1 where
  os := h.os
  tape := h.tape
  output := h.output
  size := h.size
  far k hk hn := h.block k hk (fun e => hn (hS k e.symm))
  here t g o e := by cases e
  apart t t' g g' o o' e := by cases e
theorem Inv.wide {w w1 : World} {S S' : Nat → Prop} (h : Inv w S gh0 w1) (hS : ∀ g, S g → S' g) : Inv w S' gh0 w1 where
  os := h.os
  tape := h.tape
  output := h.output
  size := h.size
  far g hg hn := h.far g hg (fun h' => hn (hS g h'))
  here t g o e := by cases e
  apart t t' g g' o o' e := by cases e
/-- The bytes that are left behind k numbers. -/
def rs (bs : List Int) : Nat → List Int
  | 0 => bs
  | k + 1 => (rs bs k).drop (readS (rs bs k)).2.1
def nu (bs : List Int) (k : Nat) : Nat := (readS (rs bs k)).1
def eru (bs : List Int) (k : Nat) : Nat := (readS (rs bs k)).2.2
/-- The error that reading an instruction ends with. -/
def readE (bs : List Int) : Nat :=
  if eru bs 0 ≠ 0 then eru bs 0 else if eru bs 1 ≠ 0 then eru bs 1 else if eru bs 2 ≠ 0 then eru bs 2 else if eru bs 3 ≠ 0 then eru bs 3 else if eru bs 4 ≠ 0 then eru bs 4
  else if 65536 < nu bs 4 then 8 else if (rs bs 5).length < nu bs 4 then 7 else if (rs bs 5).drop (nu bs 4) ≠ [] then 8 else 0
theorem readE_num {bs : List Int} {k : Nat} (hk : k ≤ 4) (h : ∀ j, j < k → eru bs j = 0) (he : eru bs k ≠ 0) : readE bs = eru bs k := by
  unfold readE
  rcases (by omega : k = 0 ∨ k = 1 ∨ k = 2 ∨ k = 3 ∨ k = 4) with rfl | rfl | rfl | rfl | rfl
  · rw [if_pos he]
  · rw [if_neg (by simp [h 0 (by omega)]), if_pos he]
  · rw [if_neg (by simp [h 0 (by omega)]), if_neg (by simp [h 1 (by omega)]), if_pos he]
  · rw [if_neg (by simp [h 0 (by omega)]), if_neg (by simp [h 1 (by omega)]), if_neg (by simp [h 2 (by omega)]), if_pos he]
  · rw [if_neg (by simp [h 0 (by omega)]), if_neg (by simp [h 1 (by omega)]), if_neg (by simp [h 2 (by omega)]), if_neg (by simp [h 3 (by omega)]), if_pos he]
theorem readE_rest {bs : List Int} (h : ∀ j, j < 5 → eru bs j = 0) : readE bs = if 65536 < nu bs 4 then 8 else if (rs bs 5).length < nu bs 4 then 7 else if (rs bs 5).drop (nu bs 4) ≠ [] then 8 else 0 := by
  unfold readE
  rw [if_neg (by simp [h 0 (by omega)]), if_neg (by simp [h 1 (by omega)]), if_neg (by simp [h 2 (by omega)]), if_neg (by simp [h 3 (by omega)]), if_neg (by simp [h 4 (by omega)])]
/-- The instruction's variable, as it is written. -/
def xr (bs : List Int) (j : Nat) (u : Value) : Array Value := #[.int .u64 (if 1 ≤ j then (nu bs 0 : Int) else 0), .int .u64 (if 2 ≤ j then (nu bs 1 : Int) else 0), .int .u64 (if 3 ≤ j then (nu bs 2 : Int) else 0), .int .u64 (if 4 ≤ j then (nu bs 3 : Int) else 0), u]
/-- Stages of the region. -/
def JR (w2 : World) (Bv X : Nat) (bs : List Int) (k : Nat) (W : World) : Prop :=
  (∀ j, j < min k 4 → eru bs j = 0) ∧ Inv w2 (fun g => g = Bv ∨ g = X) gh0 W ∧ Rd W Bv (rs bs (min k 4)) ∧ W.heap[X]? = some (.cells (xr bs (k - 4) (.slice none 0 0)) 34 (0, 0))
def StK (A : Nat → World → Prop) (γ : Gh) (W : World) : Prop :=
  match γ 0 with
  | some (n, _) => A n W
  | none => False
def gk (n : Nat) : Option (Nat × Obj) := some (n, .cells #[] 0 (0, 0))
theorem stK {A : Nat → World → Prop} {γ : Gh} {W : World} {n : Nat} (h : γ 0 = gk n) : StK A γ W ↔ A n W := by
  unfold StK; rw [h]; exact Iff.rfl
/-- How reading gives up. -/
def DR (w2 : World) (Bv X : Nat) (bs : List Int) (c : List PanicEntry) (W : World) : Prop := c = panE (readE bs) ∧ readE bs ≠ 0 ∧ Inv w2 (fun g => g = Bv ∨ g = X) gh0 W
theorem jr_number {w2 W : World} {Bv X : Nat} {bs : List Int} {k : Nat} (hk : k < 4) (hX : X ≠ Bv) (hBl : Bv < w2.heap.size) (h : JR w2 Bv X bs k W) :
    Calls Try.prog 48 #[.pointer (some ⟨Bv, 0, none⟩)] W fun e w' => (e = .returned (.int .u64 (nu bs k)) ∧ JR w2 Bv X bs (k + 1) w') ∨ ∃ c, e = .panicked c ∧ DR w2 Bv X bs c w' := by
  obtain ⟨h1, h2, h3, h4⟩ := h
  rw [Nat.min_eq_left (by omega)] at h1 h3
  refine (number_any Bv (rs bs k) W h3).mono ?_
  rintro e w' (⟨g1, rfl, g3, g4⟩ | ⟨g1, rfl, rfl⟩)
  · refine .inl ⟨rfl, fun j hj => ?_, h2.then (Inv.ofGrown (S := fun g => g = Bv ∨ g = X) g4 (fun g hg => .inl (Option.some.inj hg).symm)) (fun g hg _ => hg), ?_, ?_⟩
    · rcases (by omega : j < k ∨ j = k) with hj | rfl
      · exact h1 j hj
      · exact g1
    · rw [Nat.min_eq_left (by omega)]; exact g3
    · rw [(g4.block X (lt_of_heap h4) (fun e => hX (Option.some.inj e))), h4, show k - 4 = 0 by omega, show k + 1 - 4 = 0 by omega]
  · exact .inr ⟨_, rfl, by rw [readE_num (by omega) h1 g1]; rfl, by rw [readE_num (by omega) h1 g1]; exact g1, h2⟩
theorem st_u64 (x : Int) (W : World) (a : Addr) (h1 : (W.cell? a).isSome = true) (h2 : W.frozen? a = false) : (Instr.storeAt 22 (.pointer (some a)) (.int .u64 x)).run Try.prog W = .ok () (W.setCell a (.int .u64 x)) := by
  obtain ⟨u, hu⟩ := Option.isSome_iff_exists.1 h1
  go_simp
theorem jr_store {w2 W W' : World} {Bv X : Nat} {bs : List Int} {k : Nat} (hk : 4 ≤ k) (hX : X ≠ Bv) (h : JR w2 Bv X bs k W) (ho : Only X (.cells (xr bs (k + 1 - 4) (.slice none 0 0)) 34 (0, 0)) W W') : JR w2 Bv X bs (k + 1) W' := by
  obtain ⟨h1, h2, h3, h4⟩ := h
  have hg : W.grownBy W' (some X) := ⟨ho.os, ho.tape, ho.output, by rw [ho.size]; exact Nat.le_refl _, fun g _ hg => ho.far g (fun e => hg (by rw [e]))⟩
  refine ⟨fun j hj => h1 j (by omega), h2.then (Inv.ofGrown (S := fun g => g = Bv ∨ g = X) hg (fun g hg => .inr (Option.some.inj hg).symm)) (fun g hg _ => hg), ?_, ho.here⟩
  rw [Nat.min_eq_right (by omega)] at h3 ⊢
  obtain ⟨v, hv, hb, hne⟩ := h3
  refine ⟨v, (ho.far Bv (fun e => hX e.symm)).trans hv, hb.keep fun b hn hvb hl => ho.far b (fun e => ?_), hne⟩
  subst e
  obtain ⟨_, _, A, c, rfl, hr, _⟩ := hb
  obtain ⟨b', off, rfl, hc⟩ := hr.2 hn
  obtain rfl : b' = b := by simpa [Value.ownBlock] using hvb
  have := hc 0 hn
  rw [cell_of_row _ _ _ _ _ _ h4] at this
  match off, this with
  | 0, this => simp [xr] at this
  | 1, this => simp [xr] at this
  | 2, this => simp [xr] at this
  | 3, this => simp [xr] at this
  | 4, this => simp [xr] at this
  | n + 5, this => simp [xr] at this
end Go.Proofs.Ytclnohifgjjngaa
