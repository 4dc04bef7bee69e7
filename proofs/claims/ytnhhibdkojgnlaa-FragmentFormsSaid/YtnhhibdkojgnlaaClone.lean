/- What is proved: what the helpers on bytes (Same, Copy, Spoil of the reference, Clone of the library) do when they are called; conditions: the slices read as they are said to. -/
import Derived.Test.YtnhhibdkojgnlaaBytes
import Derived.Laws.OwnMore
import Derived.Laws.StructEq
set_option linter.unusedSimpArgs false
set_option linter.unusedVariables false
namespace Go.Proofs.Ytnhhibdkojgnlaa
open Go.RowKit
set_option maxRecDepth 100000
set_option maxHeartbeats 1000000
theorem same_bytes (u v : Value) (xs ys : List Int) (w : World) (h : BB w u xs) (k : BB w v ys) :
    Calls Try.prog 12 #[u, v] w fun e w' => e = .returned (.bool (decide (xs = ys))) ∧ w = w' := by
  have e1 := bytes_str h
  have e2 := bytes_str k
  have e3 := str_inj h.ok k.ok
  have e4 : ((strOfNums xs).toList == (strOfNums ys).toList) = decide (xs = ys) := by
    rw [ByteArray.toList_eq, ByteArray.toList_eq]
    rw [Bool.eq_iff_iff, beq_iff_eq, decide_eq_true_iff, ← e3]
    exact ⟨fun h => by simpa [strOfNums] using h, fun h => by rw [h]⟩
  clear h k
  go_enter Try.func12, Try.ntmps12
  go_wp2_with fail
  go_ret
  exact ⟨rfl, rfl⟩
theorem OwB.made (w : World) : OwB (w.alloc (.cells #[] 5)) w.heap.size (.slice (some ⟨w.heap.size, 0, none⟩) 0 0) [] := World.ownsRow_made w #[] 0 (Nat.le_refl _) (by simp [maxLen]) rfl
theorem copy_bytes (u : Value) (xs : List Int) (w : World) (h : BB w u xs) :
    Calls Try.prog 28 #[u] w fun e w' => (∃ v, e = .returned v ∧ OwB w' w.heap.size v xs) ∧ Below w.heap.size w w' := by
  have H := Lib.hid h
  clear h
  go_enter Try.func28, Try.ntmps28
  go_wp2_with (at_builtin; refine wpList_appB (base := w.heap.size) rfl _ _ rfl (.slice (some ⟨w.heap.size, 0, none⟩) 0 0) u [] xs rfl ?_ rfl ?_ ?_ ?_ ?_)
  · exact OwB.made w
  · exact H.out.below (by (repeat' (first | (with_reducible exact Below.refl _ _) | (with_reducible assumption) | (with_reducible refine Below.alloc ?_ ?_ _) | (with_reducible refine below_setRow ?_ ?_ _) | (with_reducible refine bl_drew ?_) | (with_reducible refine bl_drewN ?_ _) | (with_reducible refine Below.setCell ?_ ?_ _) | (with_reducible refine bl_then ?_ ?_ hb) | (with_reducible refine bl_then ?_ ?_ hb1) | (with_reducible refine bl_then ?_ ?_ hb2) | (with_reducible refine bl_then ?_ ?_ hb3) | (with_reducible refine bl_then ?_ ?_ hb4) | (with_reducible refine bl_then ?_ ?_ hb5) | (with_reducible refine bl_then ?_ ?_ hb6) | (with_reducible refine bl_then ?_ ?_ hb7) | (with_reducible refine bl_then ?_ ?_ hb8) | (with_reducible exact Nat.le_refl _) | omega | (simp only [World.size_alloc, World.size_setCell, World.size_drew, size_setRow]; omega) | (simp; omega) | (simp; done))))
  · simpa using H.out.len
  · simp
  · intro v' w' h1 h2 _
    go_wp2
    go_ret
    exact ⟨⟨_, rfl, by simpa using h1⟩, Below.grown (w := w.alloc _) (by (repeat' (first | (with_reducible exact Below.refl _ _) | (with_reducible assumption) | (with_reducible refine Below.alloc ?_ ?_ _) | (with_reducible refine below_setRow ?_ ?_ _) | (with_reducible refine bl_drew ?_) | (with_reducible refine bl_drewN ?_ _) | (with_reducible refine Below.setCell ?_ ?_ _) | (with_reducible refine bl_then ?_ ?_ hb) | (with_reducible refine bl_then ?_ ?_ hb1) | (with_reducible refine bl_then ?_ ?_ hb2) | (with_reducible refine bl_then ?_ ?_ hb3) | (with_reducible refine bl_then ?_ ?_ hb4) | (with_reducible refine bl_then ?_ ?_ hb5) | (with_reducible refine bl_then ?_ ?_ hb6) | (with_reducible refine bl_then ?_ ?_ hb7) | (with_reducible refine bl_then ?_ ?_ hb8) | (with_reducible exact Nat.le_refl _) | omega | (simp only [World.size_alloc, World.size_setCell, World.size_drew, size_setRow]; omega) | (simp; omega) | (simp; done)))) h2 (by simp) (by simp [Value.ownBlock])⟩
theorem clone_bytes (u : Value) (xs : List Int) (w : World) (h : BB w u xs) :
    Calls Try.prog 25 #[u] w fun e w' => (∃ v, e = .returned v ∧ OwB w' w.heap.size v xs) ∧ Below w.heap.size w w' := by
  have H := Lib.hid h
  obtain ⟨h1, h2, A, cap, rfl, hr, h3, h4, h5⟩ := h
  rcases A with _ | ad
  · obtain rfl := h3 rfl
    have hx : xs = [] := List.eq_nil_of_length_eq_zero (by omega)
    subst hx
    have g1 : (eqGuard .eql 28 (.tmp 3) (.const (.slice none 0 0)) (.slice none 0 0) (.slice none 0 0)).run Try.prog w = .ok () w := by kernel_rfl
    have g2 : (binOp .eql 28 (.slice none 0 0) (.slice none 0 0)).run Try.prog w = .ok (.bool true) w := by kernel_rfl
    go_enter Try.func25, Try.ntmps25
    go_wp2_with fail
    go_ret
    exact ⟨⟨_, rfl, OwB.nil _ _⟩, Below.refl _ _⟩
  · clear hr h3
    have g1 : (eqGuard .eql 28 (.tmp 3) (.const (.slice none 0 0)) (.slice (some ad) xs.length cap) (.slice none 0 0)).run Try.prog w = .ok () w := by kernel_rfl
    have g2 : (binOp .eql 28 (.slice (some ad) xs.length cap) (.slice none 0 0)).run Try.prog w = .ok (.bool false) w := by kernel_rfl
    go_enter Try.func25, Try.ntmps25
    go_wp2_with (at_builtin; refine wpList_appB (base := w.heap.size) rfl _ _ rfl (.slice (some ⟨w.heap.size, 0, none⟩) 0 0) (.slice (some ad) xs.length cap) [] xs rfl ?_ rfl ?_ ?_ ?_ ?_)
    · exact OwB.made w
    · exact H.out.below (by (repeat' (first | (with_reducible exact Below.refl _ _) | (with_reducible assumption) | (with_reducible refine Below.alloc ?_ ?_ _) | (with_reducible refine below_setRow ?_ ?_ _) | (with_reducible refine bl_drew ?_) | (with_reducible refine bl_drewN ?_ _) | (with_reducible refine Below.setCell ?_ ?_ _) | (with_reducible refine bl_then ?_ ?_ hb) | (with_reducible refine bl_then ?_ ?_ hb1) | (with_reducible refine bl_then ?_ ?_ hb2) | (with_reducible refine bl_then ?_ ?_ hb3) | (with_reducible refine bl_then ?_ ?_ hb4) | (with_reducible refine bl_then ?_ ?_ hb5) | (with_reducible refine bl_then ?_ ?_ hb6) | (with_reducible refine bl_then ?_ ?_ hb7) | (with_reducible refine bl_then ?_ ?_ hb8) | (with_reducible exact Nat.le_refl _) | omega | (simp only [World.size_alloc, World.size_setCell, World.size_drew, size_setRow]; omega) | (simp; omega) | (simp; done))))
    · simpa using H.out.len
    · simp
    · intro v' w' h1 h2 _
      go_wp2
      go_ret
      exact ⟨⟨_, rfl, by simpa using h1⟩, Below.grown (w := w.alloc _) (by (repeat' (first | (with_reducible exact Below.refl _ _) | (with_reducible assumption) | (with_reducible refine Below.alloc ?_ ?_ _) | (with_reducible refine below_setRow ?_ ?_ _) | (with_reducible refine bl_drew ?_) | (with_reducible refine bl_drewN ?_ _) | (with_reducible refine Below.setCell ?_ ?_ _) | (with_reducible refine bl_then ?_ ?_ hb) | (with_reducible refine bl_then ?_ ?_ hb1) | (with_reducible refine bl_then ?_ ?_ hb2) | (with_reducible refine bl_then ?_ ?_ hb3) | (with_reducible refine bl_then ?_ ?_ hb4) | (with_reducible refine bl_then ?_ ?_ hb5) | (with_reducible refine bl_then ?_ ?_ hb6) | (with_reducible refine bl_then ?_ ?_ hb7) | (with_reducible refine bl_then ?_ ?_ hb8) | (with_reducible exact Nat.le_refl _) | omega | (simp only [World.size_alloc, World.size_setCell, World.size_drew, size_setRow]; omega) | (simp; omega) | (simp; done)))) h2 (by simp) (by simp [Value.ownBlock])⟩
theorem Bel_grown {w w' : World} {row : Option Nat} (h : w.grownBy w' row) (hr : row = none) : Below w.heap.size w w' := (Below.refl _ _).grown h (Nat.le_refl _) (by rw [hr]; simp)
theorem grown_below {w w1 w' : World} {row : Option Nat} (h : w.grownBy w1 row) (hb : Below w1.heap.size w1 w') : w.grownBy w' row :=
  ⟨hb.os.trans h.os, hb.tape.trans h.tape, hb.output.trans h.output, Nat.le_trans h.size hb.size, fun k hk hne => (hb.block k (Nat.lt_of_lt_of_le hk h.size)).trans (h.block k hk hne)⟩
/-- What is behind a world is not looked at: writing there is no growing of it. -/
theorem grown_new {w w1 w' : World} {row row' : Option Nat} (h : w.grownBy w1 row) (h' : w1.grownBy w' row') (hr : row' = row ∨ ∃ k, row' = some k ∧ w.heap.size ≤ k) : w.grownBy w' row := by
  refine ⟨h'.os.trans h.os, h'.tape.trans h.tape, h'.output.trans h.output, Nat.le_trans h.size h'.size, fun k hk hne => ?_⟩
  refine (h'.block k (Nat.lt_of_lt_of_le hk h.size) ?_).trans (h.block k hk hne)
  rcases hr with rfl | ⟨j, rfl, hj⟩
  · exact hne
  · intro e
    injection e with e
    omega
end Go.Proofs.Ytnhhibdkojgnlaa
