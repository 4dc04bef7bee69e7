/- What is proved: what a reader of package utf is, and what New, Waits and End answer when they are called; conditions: the reader's block holds what it is said to. -/
import Derived.Test.YtghadceeckbgpaaUtfNil
set_option linter.unusedSimpArgs false
set_option linter.unusedVariables false
namespace Go.Proofs.Ytghadceeckbgpaa
open Go.RowKit
set_option maxRecDepth 100000
set_option maxHeartbeats 4000000
def tkF : Nat → List Int → List Int × List Int
  | 0, l => ([], l)
  | f + 1, l => if 0 < l.length ∧ (nextS l false).2 ≠ 0 then ((nextS l false).1 :: (tkF f (l.drop (nextS l false).2)).1, (tkF f (l.drop (nextS l false).2)).2) else ([], l)
/-- What bytes tell for certain, and what is left of them. -/
def tkS (l : List Int) : List Int × List Int := tkF l.length l
theorem tkF_fuel : ∀ (f g : Nat) (l : List Int), l.length ≤ f → l.length ≤ g → tkF f l = tkF g l
  | 0, 0, l, _, _ => rfl
  | 0, g + 1, l, h, _ => by unfold tkF; rw [if_neg (by omega)]
  | f + 1, 0, l, _, h => by unfold tkF; rw [if_neg (by omega)]
  | f + 1, g + 1, l, h1, h2 => by
    unfold tkF
    split
    · rename_i h
      have hb := nextS_b l false h.1
      have := h.2
      rw [tkF_fuel f g (l.drop (nextS l false).2) (by simp; omega) (by simp; omega)]
    · rfl
theorem tkS_next {l : List Int} (h : 0 < l.length) (h2 : (nextS l false).2 ≠ 0) : tkS l = ((nextS l false).1 :: (tkS (l.drop (nextS l false).2)).1, (tkS (l.drop (nextS l false).2)).2) := by
  have hb := nextS_b l false h
  unfold tkS
  obtain ⟨n, hn⟩ : ∃ n, l.length = n + 1 := ⟨l.length - 1, by omega⟩
  rw [hn]
  conv => lhs; unfold tkF
  rw [if_pos ⟨h, h2⟩, tkF_fuel n (l.drop (nextS l false).2).length (l.drop (nextS l false).2) (by simp; omega) (Nat.le_refl _)]
theorem tkS_stop {l : List Int} (h : ¬ (0 < l.length ∧ (nextS l false).2 ≠ 0)) : tkS l = ([], l) := by
  unfold tkS
  cases hl : l.length with
  | zero => rfl
  | succ n => unfold tkF; rw [if_neg h]
theorem wait_len {l : List Int} (h : 0 < l.length) (h2 : (nextS l false).2 = 0) : l.length ≤ 3 := by
  obtain ⟨q1, q2, q3, q4⟩ := begS_b l h
  unfold nextS at h2
  split at h2
  · simp at h2; omega
  · split at h2
    · omega
    · have h2 : max (begS l).1 1 = 0 := h2
      omega
theorem tkS_rest : ∀ (n : Nat) (l : List Int), l.length ≤ n → okB l → (tkS l).2.length ≤ 3 ∧ okB (tkS l).2 ∧ (tkS l).1.length + (tkS l).2.length ≤ l.length ∧ okR (tkS l).1
  | 0, l, h, hok => by
    obtain rfl : l = [] := List.eq_nil_of_length_eq_zero (by omega)
    rw [tkS_stop (by simp)]
    exact ⟨by simp, hok, by simp, okR.nil⟩
  | n + 1, l, h, hok => by
    by_cases h1 : 0 < l.length ∧ (nextS l false).2 ≠ 0
    · have hb := nextS_b l false h1.1
      have hc := nextS_c l false hok h1.1
      have := h1.2
      obtain ⟨r1, r2, r3, r4⟩ := tkS_rest n (l.drop (nextS l false).2) (by simp; omega) (hok.drop _)
      rw [tkS_next h1.1 h1.2]
      refine ⟨r1, r2, ?_, ?_⟩
      · simp at r3 ⊢
        omega
      · intro x hx
        rcases List.mem_cons.1 hx with rfl | hx
        · omega
        · exact r4 x hx
    · rw [tkS_stop h1]
      refine ⟨?_, hok, by simp, okR.nil⟩
      show l.length ≤ 3
      rcases Nat.eq_zero_or_pos l.length with h2 | h2
      · omega
      · exact wait_len h2 (Decidable.byContradiction fun h3 => h1 ⟨h2, h3⟩)
/-- A reader's block: what it keeps. -/
structure Rdr (w : World) (b : Nat) (k0 k1 k2 k3 : Int) (n : Nat) : Prop where
  blk : w.heap[b]? = some (.cells #[.bool true, .int .u8 k0, .int .u8 k1, .int .u8 k2, .int .u8 k3, .int .i64 n] 50 (0, 0))
  le : n ≤ 4
  ok : okB [k0, k1, k2, k3]
/-- A reader keeps these bytes. -/
def Keeps (w : World) (b : Nat) (ks : List Int) : Prop := ∃ k0 k1 k2 k3 n, Rdr w b k0 k1 k2 k3 n ∧ ks = [k0, k1, k2, k3].take n
section
variable {w w' : World} {b : Nat} {k0 k1 k2 k3 : Int} {n : Nat} {ks : List Int}
theorem Rdr.lt (h : Rdr w b k0 k1 k2 k3 n) : b < w.heap.size := lt_of_heap h.blk
theorem Rdr.keep (h : Rdr w b k0 k1 k2 k3 n) (hb : w'.heap[b]? = w.heap[b]?) : Rdr w' b k0 k1 k2 k3 n := ⟨hb.trans h.blk, h.le, h.ok⟩
theorem Keeps.lt (h : Keeps w b ks) : b < w.heap.size := by obtain ⟨_, _, _, _, _, h, _⟩ := h; exact h.lt
theorem Keeps.keep (h : Keeps w b ks) (hb : w'.heap[b]? = w.heap[b]?) : Keeps w' b ks := by
  obtain ⟨k0, k1, k2, k3, n, h, e⟩ := h
  exact ⟨k0, k1, k2, k3, n, h.keep hb, e⟩
theorem Keeps.below (h : Keeps w b ks) (hb : Below w.heap.size w w') : Keeps w' b ks := h.keep (hb.block b h.lt)
theorem Rdr.cells (h : Rdr w b k0 k1 k2 k3 n) : w.cell? ⟨b, 0, none⟩ = some (.bool true) ∧ w.cell? ⟨b, 5, none⟩ = some (.int .i64 n) :=
  ⟨(cell_of_row w b 0 _ _ (0, 0) h.blk).trans rfl, (cell_of_row w b 5 _ _ (0, 0) h.blk).trans rfl⟩
/-- What it keeps, as a slice. -/
theorem Rdr.bytes (h : Rdr w b k0 k1 k2 k3 n) : BB w (.slice (some ⟨b, 1, none⟩) n 4) ([k0, k1, k2, k3].take n) := by
  have hl : ([k0, k1, k2, k3].take n).length = n := by have := h.le; simp; omega
  refine ⟨h.ok.take n, by have := h.le; omega, some ⟨b, 1, none⟩, 4, by rw [hl], ?_, by simp, by have := h.le; omega, by simp [maxLen]⟩
  rw [hl]
  refine ⟨hl, fun _ => ⟨b, 1, rfl, fun j hj => ?_⟩⟩
  rw [cell_of_row w b (1 + j) _ _ (0, 0) h.blk]
  have hle := h.le
  rcases (by omega : n = 0 ∨ n = 1 ∨ n = 2 ∨ n = 3 ∨ n = 4) with rfl | rfl | rfl | rfl | rfl
  · omega
  · obtain rfl : j = 0 := by omega
    rfl
  · rcases (by omega : j = 0 ∨ j = 1) with rfl | rfl <;> rfl
  · rcases (by omega : j = 0 ∨ j = 1 ∨ j = 2) with rfl | rfl | rfl <;> rfl
  · rcases (by omega : j = 0 ∨ j = 1 ∨ j = 2 ∨ j = 3) with rfl | rfl | rfl | rfl <;> rfl
theorem Keeps.ok (h : Keeps w b ks) : okB ks ∧ ks.length ≤ 4 := by
  obtain ⟨k0, k1, k2, k3, n, h, rfl⟩ := h
  exact ⟨h.ok.take n, by simp; omega⟩
end
theorem none_some (b : Nat) (ks : List Int) (w : World) (h : Keeps w b ks) : Calls Try.prog 27 #[.pointer (some ⟨b, 0, none⟩)] w fun e w' => e = .returned (.bool false) ∧ w' = w := by
  obtain ⟨k0, k1, k2, k3, n, h, _⟩ := h
  have c0 := h.cells.1
  clear h
  go_enter Try.func27, Try.ntmps27
  go_wp2_with fail
  go_ret
  exact ⟨rfl, rfl⟩
theorem waits_any (b : Nat) (ks : List Int) (w : World) (h : Keeps w b ks) : Calls Try.prog 19 #[.pointer (some ⟨b, 0, none⟩)] w fun e w' => e = .returned (.int .i64 ks.length) ∧ w' = w := by
  have HN := Lib.hid (none_some b ks w h)
  obtain ⟨k0, k1, k2, k3, n, h, rfl⟩ := h
  have c5 := h.cells.2
  have hl : ([k0, k1, k2, k3].take n).length = n := by have := h.le; simp; omega
  rw [hl]
  clear h hl
  go_enter Try.func19, Try.ntmps19
  go_wp2_with fail
  refine HN.out.mono ?_
  rintro e w1 ⟨rfl, rfl⟩
  go_wp2_with fail
  go_ret
  exact ⟨rfl, rfl⟩
theorem new_any (w : World) : Calls Try.prog 20 #[] w fun e w' => e = .returned (.pointer (some ⟨w.heap.size, 0, none⟩)) ∧ Keeps w' w.heap.size [] ∧ Below w.heap.size w w' := by
  go_enter Try.func20, Try.ntmps20
  go_wp2_with fail
  go_ret
  exact ⟨rfl, ⟨0, 0, 0, 0, 0, ⟨heap_alloc_last w _, by omega, by simp [okB]⟩, rfl⟩, by (repeat' (first | (with_reducible exact Below.refl _ _) | (with_reducible assumption) | (with_reducible refine Below.alloc ?_ ?_ _) | (with_reducible refine below_setRow ?_ ?_ _) | (with_reducible refine bl_drew ?_) | (with_reducible refine bl_drewN ?_ _) | (with_reducible refine Below.setCell ?_ ?_ _) | (with_reducible refine bl_then ?_ ?_ hb) | (with_reducible refine bl_then ?_ ?_ hb1) | (with_reducible refine bl_then ?_ ?_ hb2) | (with_reducible refine bl_then ?_ ?_ hb3) | (with_reducible refine bl_then ?_ ?_ hb4) | (with_reducible refine bl_then ?_ ?_ hb5) | (with_reducible refine bl_then ?_ ?_ hb6) | (with_reducible refine bl_then ?_ ?_ hb7) | (with_reducible refine bl_then ?_ ?_ hb8) | (with_reducible exact Nat.le_refl _) | omega | (simp only [World.size_alloc, World.size_setCell, World.size_drew, size_setRow]; omega) | (simp; omega) | (simp; done)))⟩
end Go.Proofs.Ytghadceeckbgpaa
