/- What is proved: the two forms that the document fixes are so (anchored of the law); no condition beyond those typed. -/
import Derived.Test.YtclnohifgjjngaaWire9
set_option linter.unusedSimpArgs false
set_option linter.unusedVariables false
namespace Go.Proofs.Ytclnohifgjjngaa
open Go.RowKit
set_option maxRecDepth 100000
set_option maxHeartbeats 4000000
theorem writeS_anchor : writeS 1 2 0 1 [97] = [1, 2, 0, 1, 1, 97] := by decide +kernel
def evAnchor : List Event := [⟨4, [], 0, 0, 65⟩, ⟨2, [], 80, 24, 0⟩]
theorem writeEvS_anchor : writeEvS evAnchor = ([2, 4, 65, 2, 80, 24], 0) := by decide +kernel
theorem readS_anchor : readS [128, 0] = (0, 0, 8) := by decide +kernel
theorem evl_anchor (w : World) : EvL (w.alloc (.cells #[.int .u8 4, .slice none 0 0, .int .i64 0, .int .i64 0, .int .u8 65, .int .u8 2, .slice none 0 0, .int .i64 80, .int .i64 24, .int .u8 0] 55)) (.slice (some ⟨w.heap.size, 0, none⟩) 2 2) evAnchor := by
  refine ⟨by decide, _, 2, rfl, by simp, by decide, by decide, fun i hi => ⟨_, _, rfl, .slice none 0 0, ?_⟩⟩
  have h := heap_alloc_last w (.cells #[.int .u8 4, .slice none 0 0, .int .i64 0, .int .i64 0, .int .u8 65, .int .u8 2, .slice none 0 0, .int .i64 80, .int .i64 24, .int .u8 0] 55)
  have hi2 : i = 0 ∨ i = 1 := by
    have : i < 2 := hi
    omega
  rcases hi2 with rfl | rfl
  · exact ⟨(cell_of_row _ _ 0 _ _ (0, 0) h).trans rfl, (cell_of_row _ _ 1 _ _ (0, 0) h).trans rfl, (cell_of_row _ _ 2 _ _ (0, 0) h).trans rfl, (cell_of_row _ _ 3 _ _ (0, 0) h).trans rfl, (cell_of_row _ _ 4 _ _ (0, 0) h).trans rfl, BB.nil _, by decide, by decide, by decide, by decide⟩
  · exact ⟨(cell_of_row _ _ 5 _ _ (0, 0) h).trans rfl, (cell_of_row _ _ 6 _ _ (0, 0) h).trans rfl, (cell_of_row _ _ 7 _ _ (0, 0) h).trans rfl, (cell_of_row _ _ 8 _ _ (0, 0) h).trans rfl, (cell_of_row _ _ 9 _ _ (0, 0) h).trans rfl, BB.nil _, by decide, by decide, by decide, by decide⟩
theorem anchored_any (w : World) : Calls Try.prog 14 #[] w fun e w' => e = .returned (.bool true) ∧ Below w.heap.size w w' := by
  go_enter Try.func14, Try.ntmps14
  go_wp2_with fail
  refine (write_any 1 2 0 1 _ [97] _ (BB.one w 97 (by decide)) (by decide) (by decide) (by decide) (by decide)).mono ?_
  rw [writeS_anchor]
  rintro e w1 ⟨⟨u1, rfl, ho⟩, hb⟩
  simp only [List.length_cons, List.length_nil, Nat.reduceLT, Nat.reduceAdd, if_false] at ho ⊢
  have HO1 := Lib.hid ho
  have HB1 := Lib.hid (bl_then (show Below w.heap.size w (w.alloc _) by (repeat' (first | (with_reducible exact Below.refl _ _) | (with_reducible assumption) | (with_reducible refine Below.alloc ?_ ?_ _) | (with_reducible refine below_setRow ?_ ?_ _) | (with_reducible refine bl_drew ?_) | (with_reducible refine bl_drewN ?_ _) | (with_reducible refine Below.setCell ?_ ?_ _) | (with_reducible refine bl_then ?_ ?_ hb) | (with_reducible refine bl_then ?_ ?_ hb1) | (with_reducible refine bl_then ?_ ?_ hb2) | (with_reducible refine bl_then ?_ ?_ hb3) | (with_reducible refine bl_then ?_ ?_ hb4) | (with_reducible refine bl_then ?_ ?_ hb5) | (with_reducible refine bl_then ?_ ?_ hb6) | (with_reducible refine bl_then ?_ ?_ hb7) | (with_reducible refine bl_then ?_ ?_ hb8) | (with_reducible exact Nat.le_refl _) | omega | (simp only [World.size_alloc, World.size_setCell, World.size_drew, size_setRow]; omega) | (simp; omega) | (simp; done)))) (by simp) hb)
  clear ho hb
  go_wp2_with fail
  refine (writeevents_any _ evAnchor _ (evl_anchor w1)).mono ?_
  rw [writeEvS_anchor]
  rintro e w2 ⟨⟨u2, rfl, ho⟩, hb⟩
  have hb1 : Below w1.heap.size w1 w2 := bl_then (w1 := w1.alloc _) (by (repeat' (first | (with_reducible exact Below.refl _ _) | (with_reducible assumption) | (with_reducible refine Below.alloc ?_ ?_ _) | (with_reducible refine below_setRow ?_ ?_ _) | (with_reducible refine bl_drew ?_) | (with_reducible refine bl_drewN ?_ _) | (with_reducible refine Below.setCell ?_ ?_ _) | (with_reducible refine bl_then ?_ ?_ hb) | (with_reducible refine bl_then ?_ ?_ hb1) | (with_reducible refine bl_then ?_ ?_ hb2) | (with_reducible refine bl_then ?_ ?_ hb3) | (with_reducible refine bl_then ?_ ?_ hb4) | (with_reducible refine bl_then ?_ ?_ hb5) | (with_reducible refine bl_then ?_ ?_ hb6) | (with_reducible refine bl_then ?_ ?_ hb7) | (with_reducible refine bl_then ?_ ?_ hb8) | (with_reducible exact Nat.le_refl _) | omega | (simp only [World.size_alloc, World.size_setCell, World.size_drew, size_setRow]; omega) | (simp; omega) | (simp; done)))) (by simp) hb
  have HO2 := Lib.hid (ho.mono (b' := w1.heap.size) (by simp))
  have HO1' := Lib.hid (HO1.out.below hb1)
  have HB2 := Lib.hid (bl_then HB1.out HB1.out.size hb1)
  have hz := HB1.out.size
  have hz2 := hb1.size
  clear ho hb hb1 HO1 HB1
  go_wp2_with fail
  refine (readuint_any _ [128, 0] _ (BB.lit (t := 5) 2 rfl (heap_alloc_last w2 _) (by simp [okB]) (by decide))).mono ?_
  rw [readS_anchor]
  rintro e w3 ⟨rfl, rfl⟩
  go_wp2_with fail
  refine (same_bytes _ _ [1, 2, 0, 1, 1, 97] [1, 2, 0, 1, 1, 97] _ ((HO1'.out.below (show Below w2.heap.size w2 ((w2.alloc (.cells #[.int .u8 128, .int .u8 0] 5)).alloc (.cells #[.int .u8 1, .int .u8 2, .int .u8 0, .int .u8 1, .int .u8 1, .int .u8 97] 5)) by (repeat' (first | (with_reducible exact Below.refl _ _) | (with_reducible assumption) | (with_reducible refine Below.alloc ?_ ?_ _) | (with_reducible refine below_setRow ?_ ?_ _) | (with_reducible refine bl_drew ?_) | (with_reducible refine bl_drewN ?_ _) | (with_reducible refine Below.setCell ?_ ?_ _) | (with_reducible refine bl_then ?_ ?_ hb) | (with_reducible refine bl_then ?_ ?_ hb1) | (with_reducible refine bl_then ?_ ?_ hb2) | (with_reducible refine bl_then ?_ ?_ hb3) | (with_reducible refine bl_then ?_ ?_ hb4) | (with_reducible refine bl_then ?_ ?_ hb5) | (with_reducible refine bl_then ?_ ?_ hb6) | (with_reducible refine bl_then ?_ ?_ hb7) | (with_reducible refine bl_then ?_ ?_ hb8) | (with_reducible exact Nat.le_refl _) | omega | (simp only [World.size_alloc, World.size_setCell, World.size_drew, size_setRow]; omega) | (simp; omega) | (simp; done))))).rd (by simp [okB]) (by decide)) (BB.lit (t := 5) 6 rfl (by simpa using heap_alloc_last (w2.alloc (.cells #[.int .u8 128, .int .u8 0] 5)) (.cells #[.int .u8 1, .int .u8 2, .int .u8 0, .int .u8 1, .int .u8 1, .int .u8 97] 5)) (by simp [okB]) (by decide))).mono ?_
  rintro e w5 ⟨rfl, rfl⟩
  go_wp2_with fail
  refine (same_bytes _ _ [2, 4, 65, 2, 80, 24] [2, 4, 65, 2, 80, 24] _ ((HO2.out.below (show Below w2.heap.size w2 (((w2.alloc (.cells #[.int .u8 128, .int .u8 0] 5)).alloc (.cells #[.int .u8 1, .int .u8 2, .int .u8 0, .int .u8 1, .int .u8 1, .int .u8 97] 5)).alloc (.cells #[.int .u8 2, .int .u8 4, .int .u8 65, .int .u8 2, .int .u8 80, .int .u8 24] 5)) by (repeat' (first | (with_reducible exact Below.refl _ _) | (with_reducible assumption) | (with_reducible refine Below.alloc ?_ ?_ _) | (with_reducible refine below_setRow ?_ ?_ _) | (with_reducible refine bl_drew ?_) | (with_reducible refine bl_drewN ?_ _) | (with_reducible refine Below.setCell ?_ ?_ _) | (with_reducible refine bl_then ?_ ?_ hb) | (with_reducible refine bl_then ?_ ?_ hb1) | (with_reducible refine bl_then ?_ ?_ hb2) | (with_reducible refine bl_then ?_ ?_ hb3) | (with_reducible refine bl_then ?_ ?_ hb4) | (with_reducible refine bl_then ?_ ?_ hb5) | (with_reducible refine bl_then ?_ ?_ hb6) | (with_reducible refine bl_then ?_ ?_ hb7) | (with_reducible refine bl_then ?_ ?_ hb8) | (with_reducible exact Nat.le_refl _) | omega | (simp only [World.size_alloc, World.size_setCell, World.size_drew, size_setRow]; omega) | (simp; omega) | (simp; done))))).rd (by simp [okB]) (by decide)) (BB.lit (t := 5) 6 rfl (by simpa using heap_alloc_last ((w2.alloc (.cells #[.int .u8 128, .int .u8 0] 5)).alloc (.cells #[.int .u8 1, .int .u8 2, .int .u8 0, .int .u8 1, .int .u8 1, .int .u8 97] 5)) (.cells #[.int .u8 2, .int .u8 4, .int .u8 65, .int .u8 2, .int .u8 80, .int .u8 24] 5)) (by simp [okB]) (by decide))).mono ?_
  rintro e w5 ⟨rfl, rfl⟩
  go_wp2_with fail
  go_ret
  exact ⟨rfl, bl_then HB2.out (by omega) (by (repeat' (first | (with_reducible exact Below.refl _ _) | (with_reducible assumption) | (with_reducible refine Below.alloc ?_ ?_ _) | (with_reducible refine below_setRow ?_ ?_ _) | (with_reducible refine bl_drew ?_) | (with_reducible refine bl_drewN ?_ _) | (with_reducible refine Below.setCell ?_ ?_ _) | (with_reducible refine bl_then ?_ ?_ hb) | (with_reducible refine bl_then ?_ ?_ hb1) | (with_reducible refine bl_then ?_ ?_ hb2) | (with_reducible refine bl_then ?_ ?_ hb3) | (with_reducible refine bl_then ?_ ?_ hb4) | (with_reducible refine bl_then ?_ ?_ hb5) | (with_reducible refine bl_then ?_ ?_ hb6) | (with_reducible refine bl_then ?_ ?_ hb7) | (with_reducible refine bl_then ?_ ?_ hb8) | (with_reducible exact Nat.le_refl _) | omega | (simp only [World.size_alloc, World.size_setCell, World.size_drew, size_setRow]; omega) | (simp; omega) | (simp; done))))⟩
end Go.Proofs.Ytclnohifgjjngaa
