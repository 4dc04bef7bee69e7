/- What is proved: the two diffs that the document fixes are so (anchored of the law); the law EventsTurn returns true when it is called; conditions: those typed. -/
import Derived.Test.YtgkiedbefogklaaEvD
set_option linter.unusedSimpArgs false
set_option linter.unusedVariables false
namespace Go.Proofs.Ytgkiedbefogklaa
open Go.RowKit
set_option maxRecDepth 100000
set_option maxHeartbeats 8000000
def ea : Event := ⟨4, [], 0, 0, 65⟩
def eb : Event := ⟨4, [], 0, 0, 66⟩
theorem dA : diffS [ea] [ea, eb] = ([1, 4, 66], 0) := by kernel_rfl
theorem dB : diffS [eb] [ea, eb] = ([], 210) := by kernel_rfl
theorem aA : applyS [ea] [1, 4, 66] = (0, [ea, eb]) := by kernel_rfl
theorem evl1 {w : World} {g : Nat} {x : Int} (h : w.heap[g]? = some (.cells #[.int .u8 4, .slice none 0 0, .int .i64 0, .int .i64 0, .int .u8 x] 48 (0, 0))) (hx : 0 ≤ x ∧ x ≤ 255) : EvL w (.slice (some ⟨g, 0, none⟩) 1 1) [⟨4, [], 0, 0, x⟩] := by
  refine ⟨by simp, _, 1, rfl, by simp, by simp, by simp [maxLen], fun i hi => ⟨_, _, rfl, .slice none 0 0, ?_⟩⟩
  obtain rfl : i = 0 := by simp at hi; omega
  exact ⟨(cell_of_row _ _ 0 _ _ (0, 0) h).trans rfl, (cell_of_row _ _ 1 _ _ (0, 0) h).trans rfl, (cell_of_row _ _ 2 _ _ (0, 0) h).trans rfl, (cell_of_row _ _ 3 _ _ (0, 0) h).trans rfl, (cell_of_row _ _ 4 _ _ (0, 0) h).trans rfl, BB.nil _, by simp, by simp, by simp, hx⟩
theorem evl2 {w : World} {g : Nat} (h : w.heap[g]? = some (.cells #[.int .u8 4, .slice none 0 0, .int .i64 0, .int .i64 0, .int .u8 65, .int .u8 4, .slice none 0 0, .int .i64 0, .int .i64 0, .int .u8 66] 48 (0, 0))) : EvL w (.slice (some ⟨g, 0, none⟩) 2 2) [ea, eb] := by
  refine ⟨by simp, _, 2, rfl, by simp, by simp, by simp [maxLen], fun i hi => ⟨_, _, rfl, .slice none 0 0, ?_⟩⟩
  have hi2 : i = 0 ∨ i = 1 := by simp at hi; omega
  rcases hi2 with rfl | rfl
  · exact ⟨(cell_of_row _ _ 0 _ _ (0, 0) h).trans rfl, (cell_of_row _ _ 1 _ _ (0, 0) h).trans rfl, (cell_of_row _ _ 2 _ _ (0, 0) h).trans rfl, (cell_of_row _ _ 3 _ _ (0, 0) h).trans rfl, (cell_of_row _ _ 4 _ _ (0, 0) h).trans rfl, BB.nil _, by decide, by decide, by decide, by decide⟩
  · exact ⟨(cell_of_row _ _ 5 _ _ (0, 0) h).trans rfl, (cell_of_row _ _ 6 _ _ (0, 0) h).trans rfl, (cell_of_row _ _ 7 _ _ (0, 0) h).trans rfl, (cell_of_row _ _ 8 _ _ (0, 0) h).trans rfl, (cell_of_row _ _ 9 _ _ (0, 0) h).trans rfl, BB.nil _, by decide, by decide, by decide, by decide⟩
theorem evl1b {w : World} {x : Int} (hx : 0 ≤ x ∧ x ≤ 255) : EvL (w.alloc (.cells #[.int .u8 4, .slice none 0 0, .int .i64 0, .int .i64 0, .int .u8 x] 48)) (.slice (some ⟨w.heap.size, 0, none⟩) 1 1) [⟨4, [], 0, 0, x⟩] := evl1 (heap_alloc_last _ _) hx
theorem evl2b {w : World} : EvL (w.alloc (.cells #[.int .u8 4, .slice none 0 0, .int .i64 0, .int .i64 0, .int .u8 65, .int .u8 4, .slice none 0 0, .int .i64 0, .int .i64 0, .int .u8 66] 48)) (.slice (some ⟨w.heap.size, 0, none⟩) 2 2) [ea, eb] := evl2 (heap_alloc_last _ _)
theorem below_alloc (w : World) (o : Obj) : Below w.heap.size w (w.alloc o) := Below.alloc (Below.refl _ _) (Nat.le_refl _) _
theorem anchored_any (w : World) : Calls Try.prog 8 #[] w fun e w' => e = .returned (.bool true) ∧ Below w.heap.size w w' := by
  have hz : ∀ w, (zeroValue 48).run Try.prog w = .ok (.agg #[.int .u8 0, .slice none 0 0, .int .i64 0, .int .i64 0, .int .u8 0]) w := zero_ev2
  obtain ⟨X, hX⟩ : ∃ X, w.heap.size = X := ⟨_, rfl⟩
  have HX0 : Hid ((w.alloc (.cells #[.int .u8 0, .slice none 0 0, .int .i64 0, .int .i64 0, .int .u8 0] 48)).heap[X]? = some (.cells #[.int .u8 0, .slice none 0 0, .int .i64 0, .int .i64 0, .int .u8 0] 48 (0, 0))) := Lib.hid (by rw [← hX]; exact heap_alloc_last _ _)
  obtain ⟨w1, hw1⟩ : ∃ W, (w.alloc (.cells #[.int .u8 0, .slice none 0 0, .int .i64 0, .int .i64 0, .int .u8 0] 48)).setRow X #[.int .u8 4, .slice none 0 0, .int .i64 0, .int .i64 0, .int .u8 65] = W := ⟨_, rfl⟩
  have hb1 : Below w.heap.size w w1 := by rw [← hw1, ← hX]; exact below_setRow (below_alloc _ _) (Nat.le_refl _) _
  have hx1 : w1.heap[X]? = some (.cells #[.int .u8 4, .slice none 0 0, .int .i64 0, .int .i64 0, .int .u8 65] 48 (0, 0)) := by rw [← hw1]; exact setRow_heap _ _ _ _ _ _ HX0.out
  obtain ⟨Y, hY⟩ : ∃ Y, w1.heap.size = Y := ⟨_, rfl⟩
  have HY0 : Hid ((w1.alloc (.cells #[.int .u8 0, .slice none 0 0, .int .i64 0, .int .i64 0, .int .u8 0] 48)).heap[Y]? = some (.cells #[.int .u8 0, .slice none 0 0, .int .i64 0, .int .i64 0, .int .u8 0] 48 (0, 0))) := Lib.hid (by rw [← hY]; exact heap_alloc_last _ _)
  obtain ⟨w2, hw2⟩ : ∃ W, (w1.alloc (.cells #[.int .u8 0, .slice none 0 0, .int .i64 0, .int .i64 0, .int .u8 0] 48)).setRow Y #[.int .u8 4, .slice none 0 0, .int .i64 0, .int .i64 0, .int .u8 66] = W := ⟨_, rfl⟩
  have hb2 : Below w1.heap.size w1 w2 := by rw [← hw2, ← hY]; exact below_setRow (below_alloc _ _) (Nat.le_refl _) _
  have HX2 : Hid (w2.heap[X]? = some (.cells #[.int .u8 4, .slice none 0 0, .int .i64 0, .int .i64 0, .int .u8 65] 48 (0, 0))) := Lib.hid ((hb2.block X (lt_of_heap hx1)).trans hx1)
  have HY2 : Hid (w2.heap[Y]? = some (.cells #[.int .u8 4, .slice none 0 0, .int .i64 0, .int .i64 0, .int .u8 66] 48 (0, 0))) := Lib.hid (by rw [← hw2]; exact setRow_heap _ _ _ _ _ _ HY0.out)
  have HB2 : Hid (Below w.heap.size w w2) := Lib.hid (bl_then hb1 hb1.size hb2)
  obtain ⟨w3, hw3⟩ : ∃ W, w2.alloc (.cells #[.int .u8 4, .slice none 0 0, .int .i64 0, .int .i64 0, .int .u8 65] 48) = W := ⟨_, rfl⟩
  have hb3 : Below w2.heap.size w2 w3 := by rw [← hw3]; exact below_alloc _ _
  have HX3 := Lib.hid ((hb3.block X (lt_of_heap HX2.out)).trans HX2.out)
  have HY3 := Lib.hid ((hb3.block Y (lt_of_heap HY2.out)).trans HY2.out)
  have E1 : EvL w3 (.slice (some ⟨w2.heap.size, 0, none⟩) 1 1) [ea] := by rw [← hw3]; exact evl1b (by decide)
  obtain ⟨w4, hw4⟩ : ∃ W, w3.alloc (.cells #[.int .u8 4, .slice none 0 0, .int .i64 0, .int .i64 0, .int .u8 65, .int .u8 4, .slice none 0 0, .int .i64 0, .int .i64 0, .int .u8 66] 48) = W := ⟨_, rfl⟩
  have hb4 : Below w3.heap.size w3 w4 := by rw [← hw4]; exact below_alloc _ _
  have E2 : EvL w4 (.slice (some ⟨w3.heap.size, 0, none⟩) 2 2) [ea, eb] := by rw [← hw4]; exact evl2b
  have HE1 := Lib.hid (E1.below hb4)
  have HE2 := Lib.hid E2
  have HX4 := Lib.hid ((hb4.block X (lt_of_heap HX3.out)).trans HX3.out)
  have HY4 := Lib.hid ((hb4.block Y (lt_of_heap HY3.out)).trans HY3.out)
  have HB4 := Lib.hid (bl_then HB2.out HB2.out.size (bl_then hb3 hb3.size hb4))
  have HD := Lib.hid (evdiff_any [ea] [ea, eb] _ _ w4 HE1.out HE2.out)
  rw [dA] at HD
  clear hb1 hx1 hb2 hb3 E1 hb4 E2
  go_enter Try.func8, Try.ntmps8
  go_wp2_with (first | (with_reducible refine wpList_stB (row := #[.int .u8 4, .slice none 0 0, .int .i64 0, .int .i64 0, .int .u8 65]) evInfo (by simp [Value.oneCell']) rfl (.tmp 1) (.tmp 9) rfl rfl rfl HX0.out rfl ?_) | (with_reducible refine wpList_stB (row := #[.int .u8 4, .slice none 0 0, .int .i64 0, .int .i64 0, .int .u8 66]) evInfo (by simp [Value.oneCell']) rfl (.tmp 2) (.tmp 10) rfl rfl rfl HY0.out rfl ?_) | (with_reducible refine wpList_ldB (row := #[.int .u8 4, .slice none 0 0, .int .i64 0, .int .i64 0, .int .u8 65]) evInfo evRow rfl (.tmp 1) rfl rfl HX2.out ?_) | (with_reducible refine wpList_ldB (row := #[.int .u8 4, .slice none 0 0, .int .i64 0, .int .i64 0, .int .u8 65]) evInfo evRow rfl (.tmp 1) rfl rfl HX3.out ?_) | (with_reducible refine wpList_ldB (row := #[.int .u8 4, .slice none 0 0, .int .i64 0, .int .i64 0, .int .u8 66]) evInfo evRow rfl (.tmp 2) rfl rfl HY3.out ?_))
  refine HD.out.mono ?_
  rintro e w5 ⟨⟨q, rfl, ho⟩, hb⟩
  dsimp only at ho ⊢
  obtain ⟨QA, QN, QC, rfl⟩ := ho.form
  have HQ5 := Lib.hid (ho.rd (by simp [okB]) (by simp))
  have HB5 := Lib.hid (bl_then HB4.out HB4.out.size hb)
  have HX5 := Lib.hid ((hb.block X (lt_of_heap HX4.out)).trans HX4.out)
  have HY5 := Lib.hid ((hb.block Y (lt_of_heap HY4.out)).trans HY4.out)
  obtain ⟨w6, hw6⟩ : ∃ W, w5.alloc (.cells #[.int .u8 4, .slice none 0 0, .int .i64 0, .int .i64 0, .int .u8 65] 48) = W := ⟨_, rfl⟩
  have hb6 : Below w5.heap.size w5 w6 := by rw [← hw6]; exact below_alloc _ _
  have E6 : EvL w6 (.slice (some ⟨w5.heap.size, 0, none⟩) 1 1) [ea] := by rw [← hw6]; exact evl1b (by decide)
  have HX6 := Lib.hid ((hb6.block X (lt_of_heap HX5.out)).trans HX5.out)
  have HY6 := Lib.hid ((hb6.block Y (lt_of_heap HY5.out)).trans HY5.out)
  have HQ6 := Lib.hid (HQ5.out.below hb6)
  have HB6 := Lib.hid (bl_then HB5.out HB5.out.size hb6)
  have HAP := Lib.hid (evapply_any [ea] [1, 4, 66] _ _ w6 E6 HQ6.out)
  rw [aA] at HAP
  clear ho hb hb6 E6 HD HE1 HE2 HX0 HY0 hX hY hw1 hw2 hw3 hw4 HX2 HX3 HX4 HY2 HY3 HY4
  go_wp2_with (first | (with_reducible refine wpList_ldB (row := #[.int .u8 4, .slice none 0 0, .int .i64 0, .int .i64 0, .int .u8 65]) evInfo evRow rfl (.tmp 1) rfl rfl HX5.out ?_))
  (try rw [hw6])
  refine HAP.out.mono ?_
  rintro e w7 ⟨⟨L, P, rfl, hl, hp⟩, hb⟩
  dsimp only at hp ⊢
  obtain ⟨LA, LC, hL⟩ := hl.form
  have hpl : P.length = 2 := by rw [← List.length_map (f := HE.e), hp]; rfl
  rw [hpl] at hL
  subst hL
  have hev := hl.evl (by omega)
  rw [hp] at hev
  have HL7 := Lib.hid hev
  have HB7 := Lib.hid (bl_then HB6.out HB6.out.size hb)
  have HX7 := Lib.hid ((hb.block X (lt_of_heap HX6.out)).trans HX6.out)
  have HY7 := Lib.hid ((hb.block Y (lt_of_heap HY6.out)).trans HY6.out)
  have HQ7 := Lib.hid (HQ6.out.below hb)
  obtain ⟨w8, hw8⟩ : ∃ W, w7.alloc (.cells #[.int .u8 4, .slice none 0 0, .int .i64 0, .int .i64 0, .int .u8 66] 48) = W := ⟨_, rfl⟩
  have hb8 : Below w7.heap.size w7 w8 := by rw [← hw8]; exact below_alloc _ _
  have E8 : EvL w8 (.slice (some ⟨w7.heap.size, 0, none⟩) 1 1) [eb] := by rw [← hw8]; exact evl1b (by decide)
  have HX8 := Lib.hid ((hb8.block X (lt_of_heap HX7.out)).trans HX7.out)
  have HY8 := Lib.hid ((hb8.block Y (lt_of_heap HY7.out)).trans HY7.out)
  obtain ⟨w9, hw9⟩ : ∃ W, w8.alloc (.cells #[.int .u8 4, .slice none 0 0, .int .i64 0, .int .i64 0, .int .u8 65, .int .u8 4, .slice none 0 0, .int .i64 0, .int .i64 0, .int .u8 66] 48) = W := ⟨_, rfl⟩
  have hb9 : Below w8.heap.size w8 w9 := by rw [← hw9]; exact below_alloc _ _
  have E9 : EvL w9 (.slice (some ⟨w8.heap.size, 0, none⟩) 2 2) [ea, eb] := by rw [← hw9]; exact evl2b
  have HX9 := Lib.hid ((hb9.block X (lt_of_heap HX8.out)).trans HX8.out)
  have HY9 := Lib.hid ((hb9.block Y (lt_of_heap HY8.out)).trans HY8.out)
  have HB9 := Lib.hid (bl_then HB7.out HB7.out.size (bl_then hb8 hb8.size hb9))
  have HL9 := Lib.hid ((HL7.out.below hb8).below hb9)
  have HQ9 := Lib.hid ((HQ7.out.below hb8).below hb9)
  have HD := Lib.hid (evdiff_any [eb] [ea, eb] _ _ w9 (E8.below hb9) E9)
  rw [dB] at HD
  clear hl hp hb hpl hev hb8 E8 hb9 E9 HAP hw6 HX5 HX6 HY5 HY6 HQ5 HQ6 HB6 HL7 HQ7
  go_wp2_with (first | (with_reducible refine wpList_ldB (row := #[.int .u8 4, .slice none 0 0, .int .i64 0, .int .i64 0, .int .u8 66]) evInfo evRow rfl (.tmp 2) rfl rfl HY7.out ?_) | (with_reducible refine wpList_ldB (row := #[.int .u8 4, .slice none 0 0, .int .i64 0, .int .i64 0, .int .u8 65]) evInfo evRow rfl (.tmp 1) rfl rfl HX8.out ?_) | (with_reducible refine wpList_ldB (row := #[.int .u8 4, .slice none 0 0, .int .i64 0, .int .i64 0, .int .u8 66]) evInfo evRow rfl (.tmp 2) rfl rfl HY8.out ?_))
  refine HD.out.mono ?_
  rintro e wA ⟨⟨q2, rfl, ho⟩, hb⟩
  dsimp only at ho ⊢
  obtain ⟨RA, RN, RC, rfl⟩ := ho.form
  have HBA := Lib.hid (bl_then HB9.out HB9.out.size hb)
  have HXA := Lib.hid ((hb.block X (lt_of_heap HX9.out)).trans HX9.out)
  have HYA := Lib.hid ((hb.block Y (lt_of_heap HY9.out)).trans HY9.out)
  have HLA := Lib.hid (HL9.out.below hb)
  have HQA := Lib.hid (HQ9.out.below hb)
  obtain ⟨wB, hwB⟩ : ∃ W, wA.alloc (.cells #[.int .u8 1, .int .u8 4, .int .u8 66] 5) = W := ⟨_, rfl⟩
  have hbB : Below wA.heap.size wA wB := by rw [← hwB]; exact below_alloc _ _
  have HBB := Lib.hid (bl_then HBA.out HBA.out.size hbB)
  have HXB := Lib.hid ((hbB.block X (lt_of_heap HXA.out)).trans HXA.out)
  have HYB := Lib.hid ((hbB.block Y (lt_of_heap HYA.out)).trans HYA.out)
  have HLB := Lib.hid (HLA.out.below hbB)
  have HS := Lib.hid (same_bytes _ _ [1, 4, 66] [1, 4, 66] wB (HQA.out.below hbB) (show BB wB (.slice (some ⟨wA.heap.size, 0, none⟩) 3 3) [1, 4, 66] by rw [← hwB]; exact BB.lit (t := 5) 3 rfl (heap_alloc_last wA _) (by simp [okB]) (by decide)))
  clear ho hb hbB HD HX7 HX8 HX9 HY7 HY8 HY9 hw8 hw9 HB7 HB9 HL9 HQ9
  go_wp2_with fail
  refine HS.out.mono ?_
  rintro e wC ⟨rfl, hwC⟩
  subst wC
  simp only [decide_true]
  obtain ⟨wD, hwD⟩ : ∃ W, wB.alloc (.cells #[.int .u8 4, .slice none 0 0, .int .i64 0, .int .i64 0, .int .u8 65, .int .u8 4, .slice none 0 0, .int .i64 0, .int .i64 0, .int .u8 66] 48) = W := ⟨_, rfl⟩
  have hbD : Below wB.heap.size wB wD := by rw [← hwD]; exact below_alloc _ _
  have HLS := Lib.hid (lists_dec [ea, eb] [ea, eb] _ _ wD (HLB.out.below hbD) (show EvL wD (.slice (some ⟨wB.heap.size, 0, none⟩) 2 2) [ea, eb] by rw [← hwD]; exact evl2b))
  have hss : sameL [ea, eb] [ea, eb] = true := sameL_iff.2 rfl
  rw [hss] at HLS
  have HBD := Lib.hid (bl_then HBB.out HBB.out.size hbD)
  clear hbD hss HS hwB
  go_wp2_with (first | (with_reducible refine wpList_ldBh (row := #[.int .u8 4, .slice none 0 0, .int .i64 0, .int .i64 0, .int .u8 65]) evInfo evRow (by simp [Region.wanted, yielded, Act.put]) (.tmp 1) rfl rfl HXB.out ?_) | (with_reducible refine wpList_ldBh (row := #[.int .u8 4, .slice none 0 0, .int .i64 0, .int .i64 0, .int .u8 66]) evInfo evRow (by simp [Region.wanted, yielded, Act.put]) (.tmp 2) rfl rfl HYB.out ?_))
  refine HLS.out.mono ?_
  rintro e wE ⟨rfl, hb⟩
  have HBE := Lib.hid (bl_then HBD.out HBD.out.size hb)
  clear hb
  go_wp2_with fail
  go_ret
  exact ⟨rfl, HBE.out⟩
end Go.Proofs.Ytgkiedbefogklaa
