/- What is proved: what Decrypt and Expand of package aes, and the law AesBack, answer when they are called; conditions: the keys and blocks are bytes. -/
import Derived.Test.YtppponobefljgaaAesC
set_option linter.unusedSimpArgs false
set_option linter.unusedVariables false
namespace Go.Proofs.Ytppponobefljgaa
open Go.RowKit
set_option maxRecDepth 100000
set_option maxHeartbeats 8000000
def gh0 : Gh := fun _ => none
theorem Inv.start0 (w0 : World) (S : Nat → Prop) : Inv w0 S gh0 w0.drew := Inv.start w0 S gh0 (by intro t g o h; cases h) (by intro t t' g g' o o' h; cases h)
theorem zero31 : ∀ w, (zeroValue 31).run Try.prog w = .ok (.agg (rwb 176 fun _ => 0)) w := (zero_of_info (n := 176) (by kernel_rfl)).1
theorem dec_any (key b : Nat → Int) (hk : ∀ j, j < 16 → 0 ≤ key j ∧ key j ≤ 255) (hbb : ∀ j, j < 16 → 0 ≤ b j ∧ b j ≤ 255) (w : World) : Calls Try.prog 15 #[.agg (rwb 16 key), .agg (rwb 16 b)] w fun e w' => e = .returned (.agg (rwb 16 (decF key b))) ∧ Below w.heap.size w w' := by
  go_enter Try.func15, Try.ntmps15
  go_wp2_with fail
  rw [zeros16]
  obtain ⟨B, hB⟩ : ∃ B, w.heap.size = B := ⟨_, rfl⟩
  obtain ⟨V, hV⟩ : ∃ V, ((w.alloc (.cells (rwb 16 key) 28)).alloc (.cells (rwb 16 b) 28)).alloc (.cells (rwb 16 fun _ => 0) 28) = V := ⟨_, rfl⟩
  have HK0 : Hid (V.heap[B]? = some (.cells (rwb 16 key) 28 (0, 0))) := Lib.hid (by rw [← hV, ← hB]; (simp only [heap_setRow_if, heap_alloc_if, heap_setCell_if, World.size_alloc, size_setRow, World.size_setCell]; simp) <;> (intros; omega))
  have HB0 : Hid (V.heap[B + 1]? = some (.cells (rwb 16 b) 28 (0, 0))) := Lib.hid (by rw [← hV, ← hB]; (simp only [heap_setRow_if, heap_alloc_if, heap_setCell_if, World.size_alloc, size_setRow, World.size_setCell]; simp) <;> (intros; omega))
  have HR0 : Hid (V.heap[B + 1 + 1]? = some (.cells (rwb 16 fun _ => 0) 28 (0, 0))) := Lib.hid (by rw [← hV, ← hB]; (simp only [heap_setRow_if, heap_alloc_if, heap_setCell_if, World.size_alloc, size_setRow, World.size_setCell]; simp) <;> (intros; omega))
  have HL0 : Hid (Below w.heap.size w V) := Lib.hid (by rw [← hV]; (repeat' (first | (with_reducible exact Below.refl _ _) | (with_reducible assumption) | (with_reducible refine Below.alloc ?_ ?_ _) | (with_reducible refine below_setRow ?_ ?_ _) | (with_reducible refine bl_drew ?_) | (with_reducible refine bl_drewN ?_ _) | (with_reducible refine Below.setCell ?_ ?_ _) | (with_reducible refine bl_then ?_ ?_ hb) | (with_reducible refine bl_then ?_ ?_ hb1) | (with_reducible refine bl_then ?_ ?_ hb2) | (with_reducible refine bl_then ?_ ?_ hb3) | (with_reducible refine bl_then ?_ ?_ hb4) | (with_reducible refine bl_then ?_ ?_ hb5) | (with_reducible refine bl_then ?_ ?_ hb6) | (with_reducible refine bl_then ?_ ?_ hb7) | (with_reducible refine bl_then ?_ ?_ hb8) | (with_reducible exact Nat.le_refl _) | omega | (simp only [World.size_alloc, World.size_setCell, World.size_drew, size_setRow]; omega) | (simp; omega) | (simp; done))))
  have HI0 : Hid (Inv V (fun g => g = B + 1 + 1) (gh2 (some (B + 1 + 1, .cells (rwb 16 fun _ => 0) 28 (0, 0))) none) V.drew) := Lib.hid (Inv.start2 HR0.out rfl (by rintro g o h; cases h))
  rw [hV, hB]
  apply wp_region_eff _ _ HI0.out (hm := by kernel_rfl)
  case h =>
    (apply SeqF.read (v := .agg (rwb 16 key)) []; (focus (first | rfl | (go_simp; done) | (simp [Region.wanted, yielded]; done))); (focus (exact fun γ' W hg hI => exec_load rfl rfl (run_load_rwb rowBlock ((hI.far B (lt_of_heap HK0.out) (by first | omega | exact id)).trans HK0.out) (by omega) (fun j _ => by rw [Nat.zero_add])))); go_simp)
    apply SeqF.callE [1] (some 1) (Cph key) 23 #[.agg (rwb 16 key)]
    · exact fun _ _ => rfl
    · (first | rfl | (go_simp; done) | (simp [Region.wanted, yielded]; done))
    · intro w; kernel_rfl
    · exact fun γ' W hg hI => (new_any key hk W).mono (by rintro e W' ⟨⟨C, rfl, h2, h3⟩, hb⟩; exact ⟨_, _, rfl, ⟨C, rfl, rfl⟩, hI.new hb 1 C _ h2 h3 ((hg 1 (by simp)).trans rfl)⟩)
    rintro v x ⟨C, rfl, rfl⟩
    go_simp
    (apply SeqF.read (v := .agg (rwb 16 b)) []; (focus (first | rfl | (go_simp; done) | (simp [Region.wanted, yielded]; done))); (focus (exact fun γ' W hg hI => exec_load rfl rfl (run_load_rwb rowBlock ((hI.far (B + 1) (lt_of_heap HB0.out) (by first | omega | exact id)).trans HB0.out) (by omega) (fun j _ => by rw [Nat.zero_add])))); go_simp)
    apply SeqF.call (v := .agg (rwb 16 (decF key b))) [1] 25 #[.pointer (some ⟨C, 0, none⟩), .agg (rwb 16 b)]
    · (first | rfl | (go_simp; done) | (simp [Region.wanted, yielded]; done))
    · intro w; kernel_rfl
    · exact fun γ' W hg hI => (decm_any C (kw key) b W hbb (hI.here 1 C _ ((hg 1 (by simp)).trans rfl)).1).mono (by rintro e W' ⟨rfl, hb⟩; exact ⟨rfl, hI.below hb⟩)
    go_simp
    apply SeqF.store [0] 0 (B + 1 + 1) (.cells (rwb 16 fun _ => 0) 28 (0, 0)) rfl (by simp) (fun _ => .cells (rwb 16 (decF key b)) 28 (0, 0))
    · exact fun _ _ => rfl
    · (first | rfl | (go_simp; done) | (simp [Region.wanted, yielded]; done))
    · exact fun γ' W hg hI hW => ⟨_, exec_store rfl rfl rfl (run_store_rwb rowBlock hW), only_setRow hW⟩
    go_simp
    apply SeqF.done
    intro w9 hI9
    have HR9 := Lib.hid (hI9.here 0 (B + 1 + 1) _ (Gh.set_here _ _ _)).1
    have HL9 := Lib.hid (hI9.belowS HL0.out HL0.out.size (by rintro g rfl; omega))
    clear hI9
    go_simp
    go_wp2_with fail
    refine bodyPost_ret (v := .agg (rwb 16 (decF key b))) ?_ rfl ?_
    · exact results_cell (fn := Try.f15) Try.results15 rfl (run_loadVar_rwb rowBlock HR9.out (by omega) (fun j _ => by rw [Nat.zero_add]))
    · exact ⟨rfl, HL9.out⟩
  case hl => rfl
  case ho => kernel_rfl
theorem cph_low (F : Nat → Int) (j : Nat) (hj : j < 176) : cphF F (0 + j) = F j := by rw [Nat.zero_add]; exact if_pos hj
theorem expand_any (key : Nat → Int) (hk : ∀ j, j < 16 → 0 ≤ key j ∧ key j ≤ 255) (w : World) : Calls Try.prog 16 #[.agg (rwb 16 key)] w fun e w' => e = .returned (.agg (rwb 176 (kw key))) ∧ Below w.heap.size w w' := by
  have hz1 := zero31
  go_enter Try.func16, Try.ntmps16
  obtain ⟨B, hB⟩ : ∃ B, w.heap.size = B := ⟨_, rfl⟩
  obtain ⟨V, hV⟩ : ∃ V, (w.alloc (.cells (rwb 16 key) 28)).alloc (.cells (rwb 176 fun _ => 0) 31) = V := ⟨_, rfl⟩
  have HK0 : Hid (V.heap[B]? = some (.cells (rwb 16 key) 28 (0, 0))) := Lib.hid (by rw [← hV, ← hB]; (simp only [heap_setRow_if, heap_alloc_if, heap_setCell_if, World.size_alloc, size_setRow, World.size_setCell]; simp) <;> (intros; omega))
  have HR0 : Hid (V.heap[B + 1]? = some (.cells (rwb 176 fun _ => 0) 31 (0, 0))) := Lib.hid (by rw [← hV, ← hB]; (simp only [heap_setRow_if, heap_alloc_if, heap_setCell_if, World.size_alloc, size_setRow, World.size_setCell]; simp) <;> (intros; omega))
  have HL0 : Hid (Below w.heap.size w V) := Lib.hid (by rw [← hV]; (repeat' (first | (with_reducible exact Below.refl _ _) | (with_reducible assumption) | (with_reducible refine Below.alloc ?_ ?_ _) | (with_reducible refine below_setRow ?_ ?_ _) | (with_reducible refine bl_drew ?_) | (with_reducible refine bl_drewN ?_ _) | (with_reducible refine Below.setCell ?_ ?_ _) | (with_reducible refine bl_then ?_ ?_ hb) | (with_reducible refine bl_then ?_ ?_ hb1) | (with_reducible refine bl_then ?_ ?_ hb2) | (with_reducible refine bl_then ?_ ?_ hb3) | (with_reducible refine bl_then ?_ ?_ hb4) | (with_reducible refine bl_then ?_ ?_ hb5) | (with_reducible refine bl_then ?_ ?_ hb6) | (with_reducible refine bl_then ?_ ?_ hb7) | (with_reducible refine bl_then ?_ ?_ hb8) | (with_reducible exact Nat.le_refl _) | omega | (simp only [World.size_alloc, World.size_setCell, World.size_drew, size_setRow]; omega) | (simp; omega) | (simp; done))))
  go_wp2_with (with_reducible refine wpList_ld rowBlock rfl (.tmp 1) rfl rfl HK0.out (by omega) (G := key) (fun j _ => by rw [Nat.zero_add]) ?_)
  refine (new_any key hk _).mono ?_
  rintro e w1 ⟨⟨C, rfl, hC1, hC2⟩, hb⟩
  have hlR := lt_of_heap HR0.out
  have HC1 := Lib.hid hC2
  have HR1 : Hid (w1.heap[B + 1]? = some (.cells (rwb 176 fun _ => 0) 31 (0, 0))) := Lib.hid ((hb.block (B + 1) hlR).trans HR0.out)
  have HL1 := Lib.hid (bl_then HL0.out HL0.out.size hb)
  clear hb hC2
  go_wp2_with (first | (with_reducible refine wpList_ld rowKeys rfl (.tmp 6) rfl rfl HC1.out (by omega) (G := kw key) (cph_low _) ?_) | (with_reducible refine wpList_st rowKeys rfl (.tmp 2) (.tmp 7) rfl rfl rfl HR1.out ?_))
  refine bodyPost_ret (v := .agg (rwb 176 (kw key))) ?_ rfl ?_
  · exact results_cell (fn := Try.f16) Try.results16 rfl (run_loadVar_rwb rowKeys (setRow_heap _ _ _ _ _ _ HR1.out) (by omega) (fun j _ => by rw [Nat.zero_add]))
  · exact ⟨rfl, below_setRow HL1.out (by omega) _⟩
theorem back_any (key a b : Nat → Int) (hk : By key) (ha : By a) (hb : By b) (w : World) : Calls Try.prog 5 #[.agg (rwb 16 key), .agg (rwb 16 a), .agg (rwb 16 b)] w fun e w' => e = .returned (.bool true) ∧ Below w.heap.size w w' := by
  obtain ⟨x, hx⟩ : ∃ x, encF key a = x := ⟨_, rfl⟩
  obtain ⟨y, hy⟩ : ∃ y, encF key b = y := ⟨_, rfl⟩
  obtain ⟨z, hz⟩ : ∃ z, decF key x = z := ⟨_, rfl⟩
  obtain ⟨u, hu⟩ : ∃ u, decF key b = u := ⟨_, rfl⟩
  obtain ⟨v, hv⟩ : ∃ v, encF key u = v := ⟨_, rfl⟩
  have hxb : By x := by rw [← hx]; exact by_st _ _ _
  have e1 : eqb z a = true := (eqb_iff _ _).2 (by rw [← hz, ← hx]; exact dec_enc hk ha)
  have e2 : eqb v b = true := (eqb_iff _ _).2 (by rw [← hv, ← hu]; exact enc_dec hk hb)
  have e3 : eqb x y = eqb a b := by rw [← hx, ← hy]; exact enc_inj hk ha hb
  have q1 : ∀ w, (Op.equalIn 10000 28 (.agg (rwb 16 z)) (.agg (rwb 16 a))).run Try.prog w = .ok true w := fun w => (run_eq_block z a w).trans (by rw [e1])
  have q2 : ∀ w, (Op.equalIn 10000 28 (.agg (rwb 16 v)) (.agg (rwb 16 b))).run Try.prog w = .ok true w := fun w => (run_eq_block v b w).trans (by rw [e2])
  obtain ⟨q, hq⟩ : ∃ q, eqb a b = q := ⟨_, rfl⟩
  have q3 : ∀ w, (Op.equalIn 10000 28 (.agg (rwb 16 a)) (.agg (rwb 16 b))).run Try.prog w = .ok q w := fun w => (run_eq_block a b w).trans (by rw [hq])
  have q4 : ∀ w, (Op.equalIn 10000 28 (.agg (rwb 16 x)) (.agg (rwb 16 y))).run Try.prog w = .ok q w := fun w => (run_eq_block x y w).trans (by rw [e3, hq])
  have HX := Lib.hid hx
  have HY := Lib.hid hy
  have HZ := Lib.hid hz
  have HU := Lib.hid hu
  have HV := Lib.hid hv
  clear hx hy hz hu hv e1 e2 e3 hq
  go_enter Try.func5, Try.ntmps5
  go_wp2_with fail
  obtain ⟨B, hB⟩ : ∃ B, w.heap.size = B := ⟨_, rfl⟩
  obtain ⟨V, hV⟩ : ∃ V, ((w.alloc (.cells (rwb 16 key) 28)).alloc (.cells (rwb 16 a) 28)).alloc (.cells (rwb 16 b) 28) = V := ⟨_, rfl⟩
  have HK0 : Hid (V.heap[B]? = some (.cells (rwb 16 key) 28 (0, 0))) := Lib.hid (by rw [← hV, ← hB]; (simp only [heap_setRow_if, heap_alloc_if, heap_setCell_if, World.size_alloc, size_setRow, World.size_setCell]; simp) <;> (intros; omega))
  have HA0 : Hid (V.heap[B + 1]? = some (.cells (rwb 16 a) 28 (0, 0))) := Lib.hid (by rw [← hV, ← hB]; (simp only [heap_setRow_if, heap_alloc_if, heap_setCell_if, World.size_alloc, size_setRow, World.size_setCell]; simp) <;> (intros; omega))
  have HB0 : Hid (V.heap[B + 1 + 1]? = some (.cells (rwb 16 b) 28 (0, 0))) := Lib.hid (by rw [← hV, ← hB]; (simp only [heap_setRow_if, heap_alloc_if, heap_setCell_if, World.size_alloc, size_setRow, World.size_setCell]; simp) <;> (intros; omega))
  have HL0 : Hid (Below w.heap.size w V) := Lib.hid (by rw [← hV]; (repeat' (first | (with_reducible exact Below.refl _ _) | (with_reducible assumption) | (with_reducible refine Below.alloc ?_ ?_ _) | (with_reducible refine below_setRow ?_ ?_ _) | (with_reducible refine bl_drew ?_) | (with_reducible refine bl_drewN ?_ _) | (with_reducible refine Below.setCell ?_ ?_ _) | (with_reducible refine bl_then ?_ ?_ hb) | (with_reducible refine bl_then ?_ ?_ hb1) | (with_reducible refine bl_then ?_ ?_ hb2) | (with_reducible refine bl_then ?_ ?_ hb3) | (with_reducible refine bl_then ?_ ?_ hb4) | (with_reducible refine bl_then ?_ ?_ hb5) | (with_reducible refine bl_then ?_ ?_ hb6) | (with_reducible refine bl_then ?_ ?_ hb7) | (with_reducible refine bl_then ?_ ?_ hb8) | (with_reducible exact Nat.le_refl _) | omega | (simp only [World.size_alloc, World.size_setCell, World.size_drew, size_setRow]; omega) | (simp; omega) | (simp; done))))
  rw [hV, hB]
  clear hV
  apply wp_region_eff _ _ (Inv.start0 V fun _ => False) (hm := by kernel_rfl)
  case h =>
    (apply SeqF.read (v := .agg (rwb 16 key)) []; (focus (first | rfl | (go_simp; done) | (simp [Region.wanted, yielded]; done))); (focus (exact fun γ' W hg hI => exec_load rfl rfl (run_load_rwb rowBlock ((hI.far B (lt_of_heap HK0.out) (by first | omega | exact id)).trans HK0.out) (by omega) (fun j _ => by rw [Nat.zero_add])))); go_simp)
    (apply SeqF.read (v := .agg (rwb 16 a)) []; (focus (first | rfl | (go_simp; done) | (simp [Region.wanted, yielded]; done))); (focus (exact fun γ' W hg hI => exec_load rfl rfl (run_load_rwb rowBlock ((hI.far (B + 1) (lt_of_heap HA0.out) (by first | omega | exact id)).trans HA0.out) (by omega) (fun j _ => by rw [Nat.zero_add])))); go_simp)
    (apply SeqF.call (v := .agg (rwb 16 x)) [] 14 #[.agg (rwb 16 key), .agg (rwb 16 a)]; (focus (first | rfl | (go_simp; done) | (simp [Region.wanted, yielded]; done))); (focus (intro w; kernel_rfl)); (focus (exact fun γ' W hg hI => (enc_any key a hk W).mono (by rintro e W' ⟨rfl, hb⟩; exact ⟨by rw [HX.out], hI.below hb⟩))); go_simp)
    (apply SeqF.read (v := .agg (rwb 16 key)) []; (focus (first | rfl | (go_simp; done) | (simp [Region.wanted, yielded]; done))); (focus (exact fun γ' W hg hI => exec_load rfl rfl (run_load_rwb rowBlock ((hI.far B (lt_of_heap HK0.out) (by first | omega | exact id)).trans HK0.out) (by omega) (fun j _ => by rw [Nat.zero_add])))); go_simp)
    (apply SeqF.read (v := .agg (rwb 16 b)) []; (focus (first | rfl | (go_simp; done) | (simp [Region.wanted, yielded]; done))); (focus (exact fun γ' W hg hI => exec_load rfl rfl (run_load_rwb rowBlock ((hI.far (B + 1 + 1) (lt_of_heap HB0.out) (by first | omega | exact id)).trans HB0.out) (by omega) (fun j _ => by rw [Nat.zero_add])))); go_simp)
    (apply SeqF.call (v := .agg (rwb 16 y)) [] 14 #[.agg (rwb 16 key), .agg (rwb 16 b)]; (focus (first | rfl | (go_simp; done) | (simp [Region.wanted, yielded]; done))); (focus (intro w; kernel_rfl)); (focus (exact fun γ' W hg hI => (enc_any key b hk W).mono (by rintro e W' ⟨rfl, hb⟩; exact ⟨by rw [HY.out], hI.below hb⟩))); go_simp)
    apply SeqF.new [] 0 (fun g => .pointer (some ⟨g, 0, none⟩)) (fun _ => .cells (rwb 16 fun _ => 0) 28 (0, 0))
    · intro γ' _; rfl
    · (first | rfl | (go_simp; done) | (simp [Region.wanted, yielded]; done))
    · intro γ' W hg hI; kernel_rfl
    intro X hX
    go_simp
    apply SeqF.new [] 1 (fun g => .pointer (some ⟨g, 0, none⟩)) (fun _ => .cells (rwb 16 fun _ => 0) 28 (0, 0))
    · intro γ' _; rfl
    · (first | rfl | (go_simp; done) | (simp [Region.wanted, yielded]; done))
    · intro γ' W hg hI; kernel_rfl
    intro Y hY
    go_simp
    apply SeqF.store [0] 0 X (.cells (rwb 16 fun _ => 0) 28 (0, 0)) rfl (by simp) (fun _ => .cells (rwb 16 x) 28 (0, 0))
    · exact fun _ _ => rfl
    · (first | rfl | (go_simp; done) | (simp [Region.wanted, yielded]; done))
    · exact fun γ' W hg hI hW => ⟨_, exec_store rfl rfl rfl (run_store_rwb rowBlock hW), only_setRow hW⟩
    go_simp
    apply SeqF.store [1] 1 Y (.cells (rwb 16 fun _ => 0) 28 (0, 0)) rfl (by simp) (fun _ => .cells (rwb 16 y) 28 (0, 0))
    · exact fun _ _ => rfl
    · (first | rfl | (go_simp; done) | (simp [Region.wanted, yielded]; done))
    · exact fun γ' W hg hI hW => ⟨_, exec_store rfl rfl rfl (run_store_rwb rowBlock hW), only_setRow hW⟩
    go_simp
    apply SeqF.done
    intro w1 hI1
    have HX1 : Hid (w1.heap[X]? = some (.cells (rwb 16 x) 28 (0, 0))) := Lib.hid (hI1.here 0 X _ rfl).1
    have HY1 : Hid (w1.heap[Y]? = some (.cells (rwb 16 y) 28 (0, 0))) := Lib.hid (hI1.here 1 Y _ rfl).1
    have HK1 := Lib.hid ((hI1.far B (lt_of_heap HK0.out) id).trans HK0.out)
    have HA1 := Lib.hid ((hI1.far (B + 1) (lt_of_heap HA0.out) id).trans HA0.out)
    have HB1 := Lib.hid ((hI1.far (B + 1 + 1) (lt_of_heap HB0.out) id).trans HB0.out)
    have HL1 := Lib.hid (hI1.belowS HL0.out HL0.out.size (by rintro g h; cases h))
    clear hI1 HK0 HA0 HB0 HL0 hX hY
    go_simp
    go_wp2_with fail
    apply wp_region_eff _ _ (Inv.start0 w1 fun _ => False) (hm := by kernel_rfl)
    case h =>
      apply SeqF.call (v := .bool true) [] 8 #[]
      · (first | rfl | (go_simp; done) | (simp [Region.wanted, yielded]; done))
      · intro w; kernel_rfl
      · exact fun γ' W hg hI => (anchored_any W).mono (by rintro e W' ⟨rfl, hb⟩; exact ⟨rfl, hI.below hb⟩)
      go_simp
      (apply SeqF.pure; (focus (first | rfl | (go_simp; done) | (simp [Region.wanted, yielded]; done))); (focus (intro w; go_simp; with_reducible rfl)); go_simp)
      (apply SeqF.read (v := .agg (rwb 16 key)) []; (focus (first | rfl | (go_simp; done) | (simp [Region.wanted, yielded]; done))); (focus (exact fun γ' W hg hI => exec_load rfl rfl (run_load_rwb rowBlock ((hI.far B (lt_of_heap HK1.out) (by first | omega | exact id)).trans HK1.out) (by omega) (fun j _ => by rw [Nat.zero_add])))); go_simp)
      (apply SeqF.read (v := .agg (rwb 16 x)) []; (focus (first | rfl | (go_simp; done) | (simp [Region.wanted, yielded]; done))); (focus (exact fun γ' W hg hI => exec_load rfl rfl (run_load_rwb rowBlock ((hI.far X (lt_of_heap HX1.out) (by first | omega | exact id)).trans HX1.out) (by omega) (fun j _ => by rw [Nat.zero_add])))); go_simp)
      (apply SeqF.call (v := .agg (rwb 16 z)) [] 15 #[.agg (rwb 16 key), .agg (rwb 16 x)]; (focus (first | rfl | (go_simp; done) | (simp [Region.wanted, yielded]; done))); (focus (intro w; kernel_rfl)); (focus (exact fun γ' W hg hI => (dec_any key x hk hxb W).mono (by rintro e W' ⟨rfl, hb⟩; exact ⟨by rw [HZ.out], hI.below hb⟩))); go_simp)
      (apply SeqF.read (v := .agg (rwb 16 a)) []; (focus (first | rfl | (go_simp; done) | (simp [Region.wanted, yielded]; done))); (focus (exact fun γ' W hg hI => exec_load rfl rfl (run_load_rwb rowBlock ((hI.far (B + 1) (lt_of_heap HA1.out) (by first | omega | exact id)).trans HA1.out) (by omega) (fun j _ => by rw [Nat.zero_add])))); go_simp)
      (apply SeqF.pure; (focus (first | rfl | (go_simp; done) | (simp [Region.wanted, yielded]; done))); (focus (intro w; go_simp; with_reducible rfl)); go_simp)
      (apply SeqF.pure; (focus (first | rfl | (go_simp; done) | (simp [Region.wanted, yielded]; done))); (focus (intro w; go_simp; with_reducible rfl)); go_simp)
      (apply SeqF.pure; (focus (first | rfl | (go_simp; done) | (simp [Region.wanted, yielded]; done))); (focus (intro w; go_simp; with_reducible rfl)); go_simp)
      (apply SeqF.read (v := .agg (rwb 16 key)) []; (focus (first | rfl | (go_simp; done) | (simp [Region.wanted, yielded]; done))); (focus (exact fun γ' W hg hI => exec_load rfl rfl (run_load_rwb rowBlock ((hI.far B (lt_of_heap HK1.out) (by first | omega | exact id)).trans HK1.out) (by omega) (fun j _ => by rw [Nat.zero_add])))); go_simp)
      (apply SeqF.read (v := .agg (rwb 16 key)) []; (focus (first | rfl | (go_simp; done) | (simp [Region.wanted, yielded]; done))); (focus (exact fun γ' W hg hI => exec_load rfl rfl (run_load_rwb rowBlock ((hI.far B (lt_of_heap HK1.out) (by first | omega | exact id)).trans HK1.out) (by omega) (fun j _ => by rw [Nat.zero_add])))); go_simp)
      (apply SeqF.read (v := .agg (rwb 16 b)) []; (focus (first | rfl | (go_simp; done) | (simp [Region.wanted, yielded]; done))); (focus (exact fun γ' W hg hI => exec_load rfl rfl (run_load_rwb rowBlock ((hI.far (B + 1 + 1) (lt_of_heap HB1.out) (by first | omega | exact id)).trans HB1.out) (by omega) (fun j _ => by rw [Nat.zero_add])))); go_simp)
      (apply SeqF.call (v := .agg (rwb 16 u)) [] 15 #[.agg (rwb 16 key), .agg (rwb 16 b)]; (focus (first | rfl | (go_simp; done) | (simp [Region.wanted, yielded]; done))); (focus (intro w; kernel_rfl)); (focus (exact fun γ' W hg hI => (dec_any key b hk hb W).mono (by rintro e W' ⟨rfl, hb⟩; exact ⟨by rw [HU.out], hI.below hb⟩))); go_simp)
      (apply SeqF.call (v := .agg (rwb 16 v)) [] 14 #[.agg (rwb 16 key), .agg (rwb 16 u)]; (focus (first | rfl | (go_simp; done) | (simp [Region.wanted, yielded]; done))); (focus (intro w; kernel_rfl)); (focus (exact fun γ' W hg hI => (enc_any key u hk W).mono (by rintro e W' ⟨rfl, hb⟩; exact ⟨by rw [HV.out], hI.below hb⟩))); go_simp)
      (apply SeqF.read (v := .agg (rwb 16 b)) []; (focus (first | rfl | (go_simp; done) | (simp [Region.wanted, yielded]; done))); (focus (exact fun γ' W hg hI => exec_load rfl rfl (run_load_rwb rowBlock ((hI.far (B + 1 + 1) (lt_of_heap HB1.out) (by first | omega | exact id)).trans HB1.out) (by omega) (fun j _ => by rw [Nat.zero_add])))); go_simp)
      (apply SeqF.pure; (focus (first | rfl | (go_simp; done) | (simp [Region.wanted, yielded]; done))); (focus (intro w; go_simp; with_reducible rfl)); go_simp)
      (apply SeqF.pure; (focus (first | rfl | (go_simp; done) | (simp [Region.wanted, yielded]; done))); (focus (intro w; go_simp; with_reducible rfl)); go_simp)
      (apply SeqF.pure; (focus (first | rfl | (go_simp; done) | (simp [Region.wanted, yielded]; done))); (focus (intro w; go_simp; with_reducible rfl)); go_simp)
      (apply SeqF.read (v := .agg (rwb 16 a)) []; (focus (first | rfl | (go_simp; done) | (simp [Region.wanted, yielded]; done))); (focus (exact fun γ' W hg hI => exec_load rfl rfl (run_load_rwb rowBlock ((hI.far (B + 1) (lt_of_heap HA1.out) (by first | omega | exact id)).trans HA1.out) (by omega) (fun j _ => by rw [Nat.zero_add])))); go_simp)
      (apply SeqF.read (v := .agg (rwb 16 b)) []; (focus (first | rfl | (go_simp; done) | (simp [Region.wanted, yielded]; done))); (focus (exact fun γ' W hg hI => exec_load rfl rfl (run_load_rwb rowBlock ((hI.far (B + 1 + 1) (lt_of_heap HB1.out) (by first | omega | exact id)).trans HB1.out) (by omega) (fun j _ => by rw [Nat.zero_add])))); go_simp)
      (apply SeqF.pure; (focus (first | rfl | (go_simp; done) | (simp [Region.wanted, yielded]; done))); (focus (intro w; go_simp; with_reducible rfl)); go_simp)
      (apply SeqF.read (v := .agg (rwb 16 x)) []; (focus (first | rfl | (go_simp; done) | (simp [Region.wanted, yielded]; done))); (focus (exact fun γ' W hg hI => exec_load rfl rfl (run_load_rwb rowBlock ((hI.far X (lt_of_heap HX1.out) (by first | omega | exact id)).trans HX1.out) (by omega) (fun j _ => by rw [Nat.zero_add])))); go_simp)
      (apply SeqF.read (v := .agg (rwb 16 y)) []; (focus (first | rfl | (go_simp; done) | (simp [Region.wanted, yielded]; done))); (focus (exact fun γ' W hg hI => exec_load rfl rfl (run_load_rwb rowBlock ((hI.far Y (lt_of_heap HY1.out) (by first | omega | exact id)).trans HY1.out) (by omega) (fun j _ => by rw [Nat.zero_add])))); go_simp)
      (apply SeqF.pure; (focus (first | rfl | (go_simp; done) | (simp [Region.wanted, yielded]; done))); (focus (intro w; go_simp; with_reducible rfl)); go_simp)
      (apply SeqF.pure; (focus (first | rfl | (go_simp; done) | (simp [Region.wanted, yielded]; done))); (focus (intro w; go_simp; with_reducible rfl)); go_simp)
      (apply SeqF.pure; (focus (first | rfl | (go_simp; done) | (simp [Region.wanted, yielded]; done))); (focus (intro w; go_simp; with_reducible rfl)); go_simp)
      (apply SeqF.pure; (focus (first | rfl | (go_simp; done) | (simp [Region.wanted, yielded]; done))); (focus (intro w; go_simp; with_reducible rfl)); go_simp)
      apply SeqF.done
      intro w2 hI2
      have HL2 := Lib.hid (hI2.belowS HL1.out HL1.out.size (by rintro g h; cases h))
      clear hI2
      go_simp
      go_wp2_with fail
      go_ret
      exact ⟨rfl, HL2.out⟩
    case hl => rfl
    case ho => kernel_rfl
  case hl => rfl
  case ho => kernel_rfl
end Go.Proofs.Ytppponobefljgaa
