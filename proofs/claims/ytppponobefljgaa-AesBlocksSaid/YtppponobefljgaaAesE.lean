/- What is proved: two rows of round keys compared; the law AesBlocks answers true; conditions: the key and the block are sixteen bytes. -/
import Derived.Test.YtppponobefljgaaAesR8
set_option linter.unusedSimpArgs false
set_option linter.unusedVariables false
namespace Go.Proofs.Ytppponobefljgaa
open Go.RowKit
set_option maxRecDepth 100000
set_option maxHeartbeats 8000000
theorem extract_rwb {n o m : Nat} (F : Nat → Int) (h : o + m ≤ n) : (rwb n F).extract o (o + m) = rwb m fun j => F (o + j) := by
  apply Array.ext_getElem?
  intro i
  rw [Array.getElem?_extract]
  by_cases hi : i < m
  · rw [if_pos (by rw [rwb_size]; omega), rwb_get _ (by omega), rwb_get _ hi]
  · rw [if_neg (by rw [rwb_size]; omega), Array.getElem?_eq_none (by rw [rwb_size]; omega)]
theorem blkCells : Try.prog.cellsOf 28 = 16 := by kernel_rfl
theorem run_part_blk {n o : Nat} (F : Nat → Int) (w : World) (h : o + 16 ≤ n) : (part 28 (rwb n F) o).run Try.prog w = .ok (.agg (rwb 16 fun j => F (o + j))) w := by
  obtain ⟨i, hi⟩ := info_of_underlying (P := Try.prog) Try.underlying28
  have h1 : (isAgg 28).run Try.prog w = .ok true w := by simp [isAgg, run_underlying Try.underlying28]
  unfold part
  simp only [Sem.run_bind, h1, Result.andThen_ok, if_true, run_sizeOf w hi, blkCells]
  simp only [Sem.run_pure, extract_rwb F h]
theorem run_eq_blkD (d : Nat) (a b : Nat → Int) (w : World) : (Op.equalIn (d + 2) 28 (.agg (rwb 16 a)) (.agg (rwb 16 b))).run Try.prog w = .ok (eqb a b) w := by
  obtain ⟨i, hi⟩ := info_of_underlying (P := Try.prog) Try.underlying5
  have hc : Try.prog.cellsOf 5 = 1 := by kernel_rfl
  rw [run_equalIn_array w (d + 1) (rwb 16 a) (rwb 16 b) Try.underlying28 hi, hc]
  exact eqItems_rwb d 16 a b w _ (fun i hi => List.mem_range.1 hi)
theorem eqItems_refl {D c : Nat} {e : TypeId} {xs : Array Value} {w : World} (is : List Nat) (h : ∀ i ∈ is, ∃ a, (part e xs (i * c)).run Try.prog w = .ok a w ∧ (Op.equalIn D e a a).run Try.prog w = .ok true w) : (Op.eqItems D e c xs xs is).run Try.prog w = .ok true w := by
  induction is with
  | nil => simp only [Op.eqItems, Sem.run_pure]
  | cons i is ih =>
    obtain ⟨a, h1, h3⟩ := h i (List.mem_cons_self ..)
    have ih := ih (fun j hj => h j (List.mem_cons_of_mem _ hj))
    simp only [Op.eqItems, Sem.run_bind, h1, h3, Result.andThen_ok]
    simpa using ih
theorem run_eq_keys (F : Nat → Int) (w : World) : (Op.equalIn 10000 31 (.agg (rwb 176 F)) (.agg (rwb 176 F))).run Try.prog w = .ok true w := by
  obtain ⟨i, hi⟩ := info_of_underlying (P := Try.prog) Try.underlying28
  rw [run_equalIn_array w 9999 _ _ Try.underlying31 hi, blkCells]
  refine eqItems_refl _ (fun i hi => ⟨_, run_part_blk F w (by have := List.mem_range.1 hi; omega), ?_⟩)
  rw [run_eq_blkD 9997, (eqb_iff _ _).2 (fun _ _ => rfl)]
theorem blocks_any (key b : Nat → Int) (hk : By key) (hb : By b) (w : World) : Calls Try.prog 6 #[.agg (rwb 16 key), .agg (rwb 16 b)] w fun e w' => e = .returned (.bool true) ∧ Below w.heap.size w w' := by
  obtain ⟨K, hK⟩ : ∃ K, kw key = K := ⟨_, rfl⟩
  obtain ⟨x, hx⟩ : ∃ x, encF key b = x := ⟨_, rfl⟩
  obtain ⟨y, hy⟩ : ∃ y, decF key b = y := ⟨_, rfl⟩
  have q0 := run_eq_keys K
  have e1 : eqb x x = true := (eqb_iff _ _).2 (fun _ _ => rfl)
  have e2 : eqb y y = true := (eqb_iff _ _).2 (fun _ _ => rfl)
  have q1 : ∀ w, (Op.equalIn 10000 28 (.agg (rwb 16 x)) (.agg (rwb 16 x))).run Try.prog w = .ok true w := fun w => (run_eq_block x x w).trans (by rw [e1])
  have q2 : ∀ w, (Op.equalIn 10000 28 (.agg (rwb 16 y)) (.agg (rwb 16 y))).run Try.prog w = .ok true w := fun w => (run_eq_block y y w).trans (by rw [e2])
  have HK := Lib.hid hK
  have HX := Lib.hid hx
  have HY := Lib.hid hy
  clear hK hx hy e1 e2
  go_enter Try.func6, Try.ntmps6
  go_wp2_with fail
  obtain ⟨B, hB⟩ : ∃ B, w.heap.size = B := ⟨_, rfl⟩
  obtain ⟨V, hV⟩ : ∃ V, (w.alloc (.cells (rwb 16 key) 28)).alloc (.cells (rwb 16 b) 28) = V := ⟨_, rfl⟩
  have HK0 : Hid (V.heap[B]? = some (.cells (rwb 16 key) 28 (0, 0))) := Lib.hid (by rw [← hV, ← hB]; (simp only [heap_setRow_if, heap_alloc_if, heap_setCell_if, World.size_alloc, size_setRow, World.size_setCell]; simp) <;> (intros; omega))
  have HB0 : Hid (V.heap[B + 1]? = some (.cells (rwb 16 b) 28 (0, 0))) := Lib.hid (by rw [← hV, ← hB]; (simp only [heap_setRow_if, heap_alloc_if, heap_setCell_if, World.size_alloc, size_setRow, World.size_setCell]; simp) <;> (intros; omega))
  have HL0 : Hid (Below w.heap.size w V) := Lib.hid (by rw [← hV]; (repeat' (first | (with_reducible exact Below.refl _ _) | (with_reducible assumption) | (with_reducible refine Below.alloc ?_ ?_ _) | (with_reducible refine below_setRow ?_ ?_ _) | (with_reducible refine bl_drew ?_) | (with_reducible refine bl_drewN ?_ _) | (with_reducible refine Below.setCell ?_ ?_ _) | (with_reducible refine bl_then ?_ ?_ hb) | (with_reducible refine bl_then ?_ ?_ hb1) | (with_reducible refine bl_then ?_ ?_ hb2) | (with_reducible refine bl_then ?_ ?_ hb3) | (with_reducible refine bl_then ?_ ?_ hb4) | (with_reducible refine bl_then ?_ ?_ hb5) | (with_reducible refine bl_then ?_ ?_ hb6) | (with_reducible refine bl_then ?_ ?_ hb7) | (with_reducible refine bl_then ?_ ?_ hb8) | (with_reducible exact Nat.le_refl _) | omega | (simp only [World.size_alloc, World.size_setCell, World.size_drew, size_setRow]; omega) | (simp; omega) | (simp; done))))
  rw [hV, hB]
  clear hV
  apply wp_region_eff _ _ (Inv.start0 V fun _ => False) (hm := by kernel_rfl)
  case h =>
    (apply SeqF.read (v := .agg (rwb 16 key)) []; (focus (first | rfl | (go_simp; done) | (simp [Region.wanted, yielded]; done))); (focus (exact fun γ' W hg hI => exec_load rfl rfl (run_load_rwb rowBlock ((hI.far B (lt_of_heap HK0.out) id).trans HK0.out) (by omega) (fun j _ => by rw [Nat.zero_add])))); go_simp)
    (apply SeqF.call (v := .agg (rwb 176 K)) [] 16 #[.agg (rwb 16 key)]; (focus (first | rfl | (go_simp; done) | (simp [Region.wanted, yielded]; done))); (focus (intro w; kernel_rfl)); (focus (exact fun γ' W hg hI => (expand_any key hk W).mono (by rintro e W' ⟨rfl, hb⟩; exact ⟨by rw [HK.out], hI.below hb⟩))); go_simp)
    (apply SeqF.read (v := .agg (rwb 16 key)) []; (focus (first | rfl | (go_simp; done) | (simp [Region.wanted, yielded]; done))); (focus (exact fun γ' W hg hI => exec_load rfl rfl (run_load_rwb rowBlock ((hI.far B (lt_of_heap HK0.out) id).trans HK0.out) (by omega) (fun j _ => by rw [Nat.zero_add])))); go_simp)
    (apply SeqF.call (v := .agg (rwb 176 K)) [] 17 #[.agg (rwb 16 key)]; (focus (first | rfl | (go_simp; done) | (simp [Region.wanted, yielded]; done))); (focus (intro w; kernel_rfl)); (focus (exact fun γ' W hg hI => (rexpandK_any key hk W).mono (by rintro e W' ⟨rfl, hb⟩; exact ⟨by rw [HK.out], hI.below hb⟩))); go_simp)
    (apply SeqF.pure; (focus (first | rfl | (go_simp; done) | (simp [Region.wanted, yielded]; done))); (focus (intro w; go_simp; with_reducible rfl)); go_simp)
    (apply SeqF.pure; (focus (first | rfl | (go_simp; done) | (simp [Region.wanted, yielded]; done))); (focus (intro w; go_simp; with_reducible rfl)); go_simp)
    (apply SeqF.read (v := .agg (rwb 16 key)) []; (focus (first | rfl | (go_simp; done) | (simp [Region.wanted, yielded]; done))); (focus (exact fun γ' W hg hI => exec_load rfl rfl (run_load_rwb rowBlock ((hI.far B (lt_of_heap HK0.out) id).trans HK0.out) (by omega) (fun j _ => by rw [Nat.zero_add])))); go_simp)
    (apply SeqF.read (v := .agg (rwb 16 b)) []; (focus (first | rfl | (go_simp; done) | (simp [Region.wanted, yielded]; done))); (focus (exact fun γ' W hg hI => exec_load rfl rfl (run_load_rwb rowBlock ((hI.far (B + 1) (lt_of_heap HB0.out) id).trans HB0.out) (by omega) (fun j _ => by rw [Nat.zero_add])))); go_simp)
    (apply SeqF.call (v := .agg (rwb 16 x)) [] 14 #[.agg (rwb 16 key), .agg (rwb 16 b)]; (focus (first | rfl | (go_simp; done) | (simp [Region.wanted, yielded]; done))); (focus (intro w; kernel_rfl)); (focus (exact fun γ' W hg hI => (enc_any key b hk W).mono (by rintro e W' ⟨rfl, hb⟩; exact ⟨by rw [HX.out], hI.below hb⟩))); go_simp)
    (apply SeqF.read (v := .agg (rwb 16 key)) []; (focus (first | rfl | (go_simp; done) | (simp [Region.wanted, yielded]; done))); (focus (exact fun γ' W hg hI => exec_load rfl rfl (run_load_rwb rowBlock ((hI.far B (lt_of_heap HK0.out) id).trans HK0.out) (by omega) (fun j _ => by rw [Nat.zero_add])))); go_simp)
    (apply SeqF.read (v := .agg (rwb 16 b)) []; (focus (first | rfl | (go_simp; done) | (simp [Region.wanted, yielded]; done))); (focus (exact fun γ' W hg hI => exec_load rfl rfl (run_load_rwb rowBlock ((hI.far (B + 1) (lt_of_heap HB0.out) id).trans HB0.out) (by omega) (fun j _ => by rw [Nat.zero_add])))); go_simp)
    (apply SeqF.call (v := .agg (rwb 16 x)) [] 18 #[.agg (rwb 16 key), .agg (rwb 16 b)]; (focus (first | rfl | (go_simp; done) | (simp [Region.wanted, yielded]; done))); (focus (intro w; kernel_rfl)); (focus (exact fun γ' W hg hI => (renc_any key b hk W).mono (by rintro e W' ⟨rfl, hb⟩; exact ⟨by rw [HX.out], hI.below hb⟩))); go_simp)
    (apply SeqF.pure; (focus (first | rfl | (go_simp; done) | (simp [Region.wanted, yielded]; done))); (focus (intro w; go_simp; with_reducible rfl)); go_simp)
    (apply SeqF.pure; (focus (first | rfl | (go_simp; done) | (simp [Region.wanted, yielded]; done))); (focus (intro w; go_simp; with_reducible rfl)); go_simp)
    (apply SeqF.pure; (focus (first | rfl | (go_simp; done) | (simp [Region.wanted, yielded]; done))); (focus (intro w; go_simp; with_reducible rfl)); go_simp)
    (apply SeqF.read (v := .agg (rwb 16 key)) []; (focus (first | rfl | (go_simp; done) | (simp [Region.wanted, yielded]; done))); (focus (exact fun γ' W hg hI => exec_load rfl rfl (run_load_rwb rowBlock ((hI.far B (lt_of_heap HK0.out) id).trans HK0.out) (by omega) (fun j _ => by rw [Nat.zero_add])))); go_simp)
    (apply SeqF.read (v := .agg (rwb 16 b)) []; (focus (first | rfl | (go_simp; done) | (simp [Region.wanted, yielded]; done))); (focus (exact fun γ' W hg hI => exec_load rfl rfl (run_load_rwb rowBlock ((hI.far (B + 1) (lt_of_heap HB0.out) id).trans HB0.out) (by omega) (fun j _ => by rw [Nat.zero_add])))); go_simp)
    (apply SeqF.call (v := .agg (rwb 16 y)) [] 15 #[.agg (rwb 16 key), .agg (rwb 16 b)]; (focus (first | rfl | (go_simp; done) | (simp [Region.wanted, yielded]; done))); (focus (intro w; kernel_rfl)); (focus (exact fun γ' W hg hI => (dec_any key b hk hb W).mono (by rintro e W' ⟨rfl, hb⟩; exact ⟨by rw [HY.out], hI.below hb⟩))); go_simp)
    (apply SeqF.read (v := .agg (rwb 16 key)) []; (focus (first | rfl | (go_simp; done) | (simp [Region.wanted, yielded]; done))); (focus (exact fun γ' W hg hI => exec_load rfl rfl (run_load_rwb rowBlock ((hI.far B (lt_of_heap HK0.out) id).trans HK0.out) (by omega) (fun j _ => by rw [Nat.zero_add])))); go_simp)
    (apply SeqF.read (v := .agg (rwb 16 b)) []; (focus (first | rfl | (go_simp; done) | (simp [Region.wanted, yielded]; done))); (focus (exact fun γ' W hg hI => exec_load rfl rfl (run_load_rwb rowBlock ((hI.far (B + 1) (lt_of_heap HB0.out) id).trans HB0.out) (by omega) (fun j _ => by rw [Nat.zero_add])))); go_simp)
    (apply SeqF.call (v := .agg (rwb 16 y)) [] 19 #[.agg (rwb 16 key), .agg (rwb 16 b)]; (focus (first | rfl | (go_simp; done) | (simp [Region.wanted, yielded]; done))); (focus (intro w; kernel_rfl)); (focus (exact fun γ' W hg hI => (rdec_any key b hk hb W).mono (by rintro e W' ⟨rfl, hb⟩; exact ⟨by rw [HY.out], hI.below hb⟩))); go_simp)
    (apply SeqF.pure; (focus (first | rfl | (go_simp; done) | (simp [Region.wanted, yielded]; done))); (focus (intro w; go_simp; with_reducible rfl)); go_simp)
    (apply SeqF.pure; (focus (first | rfl | (go_simp; done) | (simp [Region.wanted, yielded]; done))); (focus (intro w; go_simp; with_reducible rfl)); go_simp)
    (apply SeqF.pure; (focus (first | rfl | (go_simp; done) | (simp [Region.wanted, yielded]; done))); (focus (intro w; go_simp; with_reducible rfl)); go_simp)
    apply SeqF.call (v := .bool true) [] 8 #[]
    · (first | rfl | (go_simp; done) | (simp [Region.wanted, yielded]; done))
    · intro w; kernel_rfl
    · exact fun γ' U hg hI => (anchored_any U).mono (by rintro e W' ⟨rfl, hb⟩; exact ⟨rfl, hI.below hb⟩)
    go_simp
    (apply SeqF.pure; (focus (first | rfl | (go_simp; done) | (simp [Region.wanted, yielded]; done))); (focus (intro w; go_simp; with_reducible rfl)); go_simp)
    (apply SeqF.pure; (focus (first | rfl | (go_simp; done) | (simp [Region.wanted, yielded]; done))); (focus (intro w; go_simp; with_reducible rfl)); go_simp)
    apply SeqF.done
    intro w9 hI9
    have HL9 := Lib.hid (hI9.belowS HL0.out HL0.out.size (by rintro g h; cases h))
    clear hI9
    go_simp
    go_wp2_with fail
    go_ret
    exact ⟨rfl, HL9.out⟩
  case hl => rfl
  case ho => kernel_rfl
end Go.Proofs.Ytppponobefljgaa
