/- What is proved: what Table and Unsub of the reference, and Sub and Unsub of package aes, answer when they are called; conditions: the arguments are bytes. -/
import Derived.Test.YtppponobefljgaaAesR2
set_option linter.unusedSimpArgs false
set_option linter.unusedVariables false
namespace Go.Proofs.Ytppponobefljgaa
open Go.RowKit
set_option maxRecDepth 100000
set_option maxHeartbeats 8000000
theorem table_any (w : World) : Calls Try.prog 22 #[] w fun e w' => e = .returned (.agg (rwb 256 subI)) ∧ Below w.heap.size w w' := by
  have hz := zeros256
  go_enter Try.func22, Try.ntmps22
  go_wp2_with fail
  clear hz
  obtain ⟨N, hN⟩ : ∃ N, w.heap.size = N := ⟨_, rfl⟩
  obtain ⟨V, hV⟩ : ∃ V, (w.alloc (.cells (rwb 256 fun _ => 0) 35)).alloc (.cells (rwb 256 fun _ => 0) 35) = V := ⟨_, rfl⟩
  have HR0 : Hid (V.heap[N]? = some (.cells (rwb 256 fun _ => 0) 35 (0, 0))) := Lib.hid (by rw [← hV, ← hN]; (simp only [heap_setRow_if, heap_alloc_if, heap_setCell_if, World.size_alloc, size_setRow, World.size_setCell]; simp) <;> (intros; omega))
  have HT0 : Hid (V.heap[N + 1]? = some (.cells (rwb 256 fun j => if j < 0 then subI j else 0) 35 (0, 0))) := Lib.hid (by rw [← hV, ← hN, rwb_congr (f := fun j => if j < 0 then subI j else 0) (g := fun _ => 0) (fun j _ => if_neg (by omega))]; (simp only [heap_setRow_if, heap_alloc_if, heap_setCell_if, World.size_alloc, size_setRow, World.size_setCell]; simp) <;> (intros; omega))
  have HL0 : Hid (Below w.heap.size w V) := Lib.hid (by rw [← hV]; (repeat' (first | (with_reducible exact Below.refl _ _) | (with_reducible assumption) | (with_reducible refine Below.alloc ?_ ?_ _) | (with_reducible refine below_setRow ?_ ?_ _) | (with_reducible refine bl_drew ?_) | (with_reducible refine bl_drewN ?_ _) | (with_reducible refine Below.setCell ?_ ?_ _) | (with_reducible refine bl_then ?_ ?_ hb) | (with_reducible refine bl_then ?_ ?_ hb1) | (with_reducible refine bl_then ?_ ?_ hb2) | (with_reducible refine bl_then ?_ ?_ hb3) | (with_reducible refine bl_then ?_ ?_ hb4) | (with_reducible refine bl_then ?_ ?_ hb5) | (with_reducible refine bl_then ?_ ?_ hb6) | (with_reducible refine bl_then ?_ ?_ hb7) | (with_reducible refine bl_then ?_ ?_ hb8) | (with_reducible exact Nat.le_refl _) | omega | (simp only [World.size_alloc, World.size_setCell, World.size_drew, size_setRow]; omega) | (simp; omega) | (simp; done))))
  rw [hV, hN]
  clear hV
  go_loopw [2] (fun i wr => ∃ k : Nat, k ≤ 256 ∧ i = .int .i64 k ∧ Hid (wr.heap[N]? = some (.cells (rwb 256 fun _ => 0) 35 (0, 0))) ∧ Hid (wr.heap[N + 1]? = some (.cells (rwb 256 fun j => if j < k then subI j else 0) 35 (0, 0))) ∧ Hid (Below w.heap.size w wr)) (fun i _ => 256 - (intOf i).toNat)
  case atStart => exact ⟨0, by omega, rfl, HR0, HT0, HL0⟩
  case round =>
    clear HR0 HT0 HL0
    obtain ⟨k, hk, rfl, HR, HT, HL⟩ := hrel
    by_cases hlt : k < 256
    · have hki : (k : Int) < 256 := by omega
      have hk0 : (0 : Int) ≤ (k : Int) := by omega
      have hw : IntKind.u8.wrap (k : Int) = (k : Int) := by rw [IntKind.wrap_u8']; omega
      have fx := frozen_of_row wr (N + 1) k _ _ HT.out
      have cx := cell_rwb HT.out hlt
      rw [if_neg (by omega)] at cx
      have HTn : Hid ((wr.setCell ⟨N + 1, k, none⟩ (.int .u8 (subI k))).heap[N + 1]? = some (.cells (rwb 256 fun j => if j < k + 1 then subI j else 0) 35 (0, 0))) := Lib.hid (shut_row HT.out hlt (fun j hj => by
        unfold upd
        by_cases e : j = k
        · rw [if_pos e, if_pos (by omega), e]
        · rw [if_neg e]
          show (if j < k then subI j else 0) = _
          by_cases h : j < k
          · rw [if_pos h, if_pos (by omega)]
          · rw [if_neg h, if_neg (by omega)]))
      have HRn : Hid ((wr.setCell ⟨N + 1, k, none⟩ (.int .u8 (subI k))).heap[N]? = _) := Lib.hid ((heap_setCell_other _ ⟨_, _, _⟩ _ _ (by simp)).trans HR.out)
      have HLn : Hid (Below w.heap.size w (wr.setCell ⟨N + 1, k, none⟩ (.int .u8 (subI k)))) := Lib.hid (HL.out.setCell (by simp; omega) _)
      go_wp2_with fail
      refine (rsub_any k _ hlt).mono ?_
      rintro e w1 ⟨rfl, rfl⟩
      generalize subI k = z at *
      go_wp2_with fail
      go_roundw
      case rel =>
        first
          | exact ⟨k + 1, by omega, by go_num, HRn, HTn, HLn⟩
          | ((repeat apply Exists.intro); refine ⟨?_, rfl⟩; exact ⟨k + 1, by omega, by go_num, HRn, HTn, HLn⟩)
      case measure => first | (simp [intOf]; done) | (simp [intOf]; omega)
    · obtain rfl : k = 256 := by omega
      have HT2 : Hid (wr.heap[N + 1]? = some (.cells (rwb 256 subI) 35 (0, 0))) := Lib.hid (by
        rw [HT.out, rwb_congr (g := subI) (fun j hj => if_pos hj)])
      clear HT
      go_wp2_with (first | (with_reducible refine wpList_ld rowBox rfl (.tmp 1) rfl rfl HT2.out (by omega) (G := subI) (fun j _ => by rw [Nat.zero_add]) ?_) | (with_reducible refine wpList_st rowBox rfl (.tmp 0) (.tmp 12) rfl rfl rfl HR.out ?_))
      refine bodyPost_ret (v := .agg (rwb 256 subI)) ?_ rfl ?_
      · exact results_cell (fn := Try.f22) Try.results22 rfl (run_loadVar_rwb rowBox (setRow_heap _ _ _ _ _ _ HR.out) (by omega) (fun j _ => by rw [Nat.zero_add]))
      · exact ⟨rfl, below_setRow HL.out (by omega) _⟩
theorem runsub_any (b : Nat) (w : World) (hb : b < 256) : Calls Try.prog 13 #[.int .u8 b] w fun e w' => e = .returned (.int .u8 (unsI b)) ∧ Below w.heap.size w w' := by
  have hz := zeros256
  obtain ⟨-, -, -, -, -, hu1, hu2⟩ := tab_s b hb
  have HU := Lib.hid hu2
  go_enter Try.func13, Try.ntmps13
  go_wp2_with fail
  refine (table_any _).mono ?_
  rintro e w1 ⟨rfl, hb1⟩
  obtain ⟨N, hN⟩ : ∃ N, w1.heap.size = N := ⟨_, rfl⟩
  have hNs := hb1.size
  have HT0 : Hid ((w1.alloc (.cells (rwb 256 fun _ => 0) 35)).heap[N]? = some (.cells (rwb 256 fun _ => 0) 35 (0, 0))) := Lib.hid (by rw [← hN]; exact heap_alloc_last _ _)
  have HL0 : Hid (Below w.heap.size w (w1.alloc (.cells (rwb 256 fun _ => 0) 35))) := Lib.hid (hb1.alloc hb1.size _)
  clear hb1
  rw [hN] at hNs
  go_wp2_with (with_reducible refine wpList_stO rowBox rfl (.tmp 3) (.tmp 5) rfl rfl rfl HT0.out (by omega) ?_)
  intro wA hA
  have HTA : Hid (wA.heap[N]? = some (.cells (rwb 256 subI) 35 (0, 0))) := Lib.hid ((hA.here HT0.out).trans (by
    rw [rwb_congr (fun j hj => ?_)]
    unfold ovr
    rw [if_pos (by omega), Nat.sub_zero]))
  have HLA := Lib.hid (hA.below HL0.out (by omega))
  clear hA HT0 HL0 hz
  go_wp2_with fail
  go_loopw [4] (fun i wr => ∃ k : Nat, Hid (k ≤ unsT b) ∧ i = .int .i64 k ∧ wr = wA) (fun i _ => 256 - (intOf i).toNat)
  case atStart => exact ⟨0, Lib.hid (by omega), rfl, rfl⟩
  case round =>
    obtain ⟨k, HK, rfl, rfl⟩ := hrel
    have hk : k < 256 := by have := HK.out; omega
    have hki : (k : Int) < 256 := by omega
    have hk0 : (0 : Int) ≤ (k : Int) := by omega
    have hw : IntKind.u8.wrap (k : Int) = (k : Int) := by rw [IntKind.wrap_u8']; omega
    have cx := cell_rwb HTA.out hk
    by_cases e : subT k = b
    · have HE : Hid (unsI b = (k : Int)) := Lib.hid (by
        unfold unsI
        rw [← e, (tab_s k hk).2.1])
      have ei : subI k = (b : Int) := by unfold subI; rw [e]
      rw [ei] at cx
      clear ei e
      go_wp2_with fail
      go_ret
      rw [HE.out]
      exact ⟨rfl, HLA.out⟩
    · have HKn : Hid (k + 1 ≤ unsT b) := Lib.hid (by
        have h1 := HK.out
        have h2 : k ≠ unsT b := fun h => e (by rw [h]; exact HU.out)
        omega)
      have ei : (subI k == (b : Int)) = false := by rw [beq_eq_false_iff_ne]; unfold subI; omega
      generalize subI k = z at *
      clear e HK
      go_wp2_with fail
      go_roundw
      case rel =>
        first
          | exact ⟨k + 1, HKn, by go_num, rfl⟩
          | exact ⟨k + 1, HKn, by go_num, trivial⟩
          | ((repeat apply Exists.intro); refine ⟨?_, rfl⟩; exact ⟨k + 1, HKn, by go_num, rfl⟩)
      case measure => first | (simp [intOf]; done) | (simp [intOf]; omega)
theorem sub_any (b : Nat) (w : World) (hb : b < 256) : Calls Try.prog 10 #[.int .u8 b] w fun e w' => e = .returned (.int .u8 (subI b)) ∧ Below w.heap.size w w' := by
  have hz := zeros256
  have hbi : (b : Int) < 256 := by omega
  go_enter Try.func10, Try.ntmps10
  go_wp2_with fail
  refine (boxes_any _).mono ?_
  rintro e w1 ⟨rfl, hb1⟩
  (obtain ⟨N, hN⟩ : ∃ N, w1.heap.size = N := ⟨_, rfl⟩; obtain ⟨V, hV⟩ : ∃ V, (w1.alloc (.cells (rwb 256 fun _ => 0) 35)).alloc (.cells (rwb 256 fun _ => 0) 35) = V := ⟨_, rfl⟩)
  have hNs := hb1.size
  rw [hN] at hNs
  have HA0 : Hid (V.heap[N]? = some (.cells (rwb 256 fun _ => 0) 35 (0, 0))) := Lib.hid (by rw [← hV, ← hN]; (simp only [heap_setRow_if, heap_alloc_if, heap_setCell_if, World.size_alloc, size_setRow, World.size_setCell]; simp) <;> (intros; omega))
  have HB0 : Hid (V.heap[N + 1]? = some (.cells (rwb 256 fun _ => 0) 35 (0, 0))) := Lib.hid (by rw [← hV, ← hN]; (simp only [heap_setRow_if, heap_alloc_if, heap_setCell_if, World.size_alloc, size_setRow, World.size_setCell]; simp) <;> (intros; omega))
  have HL0 : Hid (Below w.heap.size w V) := Lib.hid (by rw [← hV]; exact (hb1.alloc hb1.size _).alloc (by simp; omega) _)
  clear hb1
  rw [← hV] at HA0 HB0 HL0
  clear hV
  go_wp2_with (with_reducible refine wpList_stO rowBox rfl (.tmp 3) (.tmp 7) rfl rfl rfl HA0.out (by omega) ?_)
  intro wA hA
  have HA1 : Hid (wA.heap[N]? = some (.cells (rwb 256 subI) 35 (0, 0))) := Lib.hid ((hA.here HA0.out).trans (by
    rw [rwb_congr (fun j hj => ?_)]
    unfold ovr
    rw [if_pos (by omega), Nat.sub_zero]))
  have HB1 := Lib.hid (hA.far HB0.out (by omega))
  have HL1 := Lib.hid (hA.below HL0.out (by omega))
  clear hA HA0 HB0 HL0 hz
  go_wp2_with (with_reducible refine wpList_stO rowBox rfl (.tmp 4) (.tmp 8) rfl rfl rfl HB1.out (by omega) ?_)
  intro wB hB
  have HA2 := Lib.hid (hB.far HA1.out (by omega))
  have HL2 := Lib.hid (hB.below HL1.out (by omega))
  clear hB HA1 HB1 HL1
  have cx := cell_rwb HA2.out hb
  go_wp2_with fail
  go_ret
  exact ⟨rfl, HL2.out⟩
theorem unsub_any (b : Nat) (w : World) (hb : b < 256) : Calls Try.prog 12 #[.int .u8 b] w fun e w' => e = .returned (.int .u8 (unsI b)) ∧ Below w.heap.size w w' := by
  have hz := zeros256
  have hbi : (b : Int) < 256 := by omega
  go_enter Try.func12, Try.ntmps12
  go_wp2_with fail
  refine (boxes_any _).mono ?_
  rintro e w1 ⟨rfl, hb1⟩
  (obtain ⟨N, hN⟩ : ∃ N, w1.heap.size = N := ⟨_, rfl⟩; obtain ⟨V, hV⟩ : ∃ V, (w1.alloc (.cells (rwb 256 fun _ => 0) 35)).alloc (.cells (rwb 256 fun _ => 0) 35) = V := ⟨_, rfl⟩)
  have hNs := hb1.size
  rw [hN] at hNs
  have HA0 : Hid (V.heap[N]? = some (.cells (rwb 256 fun _ => 0) 35 (0, 0))) := Lib.hid (by rw [← hV, ← hN]; (simp only [heap_setRow_if, heap_alloc_if, heap_setCell_if, World.size_alloc, size_setRow, World.size_setCell]; simp) <;> (intros; omega))
  have HB0 : Hid (V.heap[N + 1]? = some (.cells (rwb 256 fun _ => 0) 35 (0, 0))) := Lib.hid (by rw [← hV, ← hN]; (simp only [heap_setRow_if, heap_alloc_if, heap_setCell_if, World.size_alloc, size_setRow, World.size_setCell]; simp) <;> (intros; omega))
  have HL0 : Hid (Below w.heap.size w V) := Lib.hid (by rw [← hV]; exact (hb1.alloc hb1.size _).alloc (by simp; omega) _)
  clear hb1
  rw [← hV] at HA0 HB0 HL0
  clear hV
  go_wp2_with (with_reducible refine wpList_stO rowBox rfl (.tmp 3) (.tmp 7) rfl rfl rfl HA0.out (by omega) ?_)
  intro wA hA
  have HB1 := Lib.hid (hA.far HB0.out (by omega))
  have HL1 := Lib.hid (hA.below HL0.out (by omega))
  clear hA HA0 HB0 HL0 hz
  go_wp2_with (with_reducible refine wpList_stO rowBox rfl (.tmp 4) (.tmp 8) rfl rfl rfl HB1.out (by omega) ?_)
  intro wB hB
  have HA2 : Hid (wB.heap[N + 1]? = some (.cells (rwb 256 unsI) 35 (0, 0))) := Lib.hid ((hB.here HB1.out).trans (by
    rw [rwb_congr (fun j hj => ?_)]
    unfold ovr
    rw [if_pos (by omega), Nat.sub_zero]))
  have HL2 := Lib.hid (hB.below HL1.out (by omega))
  clear hB HB1 HL1
  have cx := cell_rwb HA2.out hb
  go_wp2_with fail
  go_ret
  exact ⟨rfl, HL2.out⟩
end Go.Proofs.Ytppponobefljgaa
