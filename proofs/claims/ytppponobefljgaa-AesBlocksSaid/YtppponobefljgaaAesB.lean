/- What is proved: anchored of the statements answers true. -/
import Derived.Test.YtppponobefljgaaAesA
import Derived.ChangeKeysEq
set_option linter.unusedSimpArgs false
set_option linter.unusedVariables false
namespace Go.Proofs.Ytppponobefljgaa
open Go.RowKit
set_option maxRecDepth 100000
set_option maxHeartbeats 8000000
theorem eqItems_rwb (d n : Nat) (a b : Nat → Int) (w : World) : ∀ is : List Nat, (∀ i ∈ is, i < n) → (Op.eqItems (d + 1) 5 1 (rwb n a) (rwb n b) is).run Try.prog w = .ok (is.all fun i => a i == b i) w
  | [], _ => rfl
  | i :: is, h => by
    have h1 := run_part_plain (P := Try.prog) w (e := 5) (by kernel_rfl) (xs := rwb n a) (off := i * 1) (by rw [Nat.mul_one]; exact rwb_get a (h i (List.mem_cons_self ..)))
    have h2 := run_part_plain (P := Try.prog) w (e := 5) (by kernel_rfl) (xs := rwb n b) (off := i * 1) (by rw [Nat.mul_one]; exact rwb_get b (h i (List.mem_cons_self ..)))
    have h3 := run_equalIn_int (P := Try.prog) w d 5 .u8 .u8 (a i) (b i) Try.underlying5
    have ih := eqItems_rwb d n a b w is (fun j hj => h j (List.mem_cons_of_mem _ hj))
    simp only [Op.eqItems, Sem.run_bind, h1, h2, h3, Result.andThen_ok, List.all_cons]
    cases a i == b i
    · rfl
    · simpa using ih
def eqb (a b : Nat → Int) : Bool := (List.range 16).all fun i => a i == b i
theorem eqb_iff (a b : Nat → Int) : eqb a b = true ↔ ∀ j, j < 16 → a j = b j := by simp [eqb]
theorem run_eq_block (a b : Nat → Int) (w : World) : (Op.equalIn 10000 28 (.agg (rwb 16 a)) (.agg (rwb 16 b))).run Try.prog w = .ok (eqb a b) w := by
  obtain ⟨i, hi⟩ := info_of_underlying (P := Try.prog) Try.underlying5
  have hc : Try.prog.cellsOf 5 = 1 := by kernel_rfl
  rw [run_equalIn_array w 9999 (rwb 16 a) (rwb 16 b) Try.underlying28 hi, hc]
  exact eqItems_rwb 9998 16 a b w _ (fun i hi => List.mem_range.1 hi)
theorem anchored_any (w : World) : Calls Try.prog 8 #[] w fun e w' => e = .returned (.bool true) ∧ Below w.heap.size w w' := by
  go_enter Try.func8, Try.ntmps8
  go_wp2_with fail
  rw [zeros16]
  obtain ⟨B, hB⟩ : ∃ B, w.heap.size = B := ⟨_, rfl⟩
  obtain ⟨V, hV⟩ : ∃ V, (w.alloc (.cells (rwb 16 fun _ => 0) 28)).alloc (.cells (rwb 16 fun _ => 0) 28) = V := ⟨_, rfl⟩
  have HK0 : Hid (V.heap[B]? = some (.cells (rwb 16 fun j => if j < 0 then anK j else 0) 28 (0, 0))) := Lib.hid (by rw [← hV, ← hB, rwb_congr (f := fun j => if j < 0 then anK j else 0) (g := fun _ => 0) (fun j _ => if_neg (by omega))]; (simp only [heap_setRow_if, heap_alloc_if, heap_setCell_if, World.size_alloc, size_setRow, World.size_setCell]; simp) <;> (intros; omega))
  have HB0 : Hid (V.heap[B + 1]? = some (.cells (rwb 16 fun j => if j < 0 then anB j else 0) 28 (0, 0))) := Lib.hid (by rw [← hV, ← hB, rwb_congr (f := fun j => if j < 0 then anB j else 0) (g := fun _ => 0) (fun j _ => if_neg (by omega))]; (simp only [heap_setRow_if, heap_alloc_if, heap_setCell_if, World.size_alloc, size_setRow, World.size_setCell]; simp) <;> (intros; omega))
  have HL0 : Hid (Below w.heap.size w V) := Lib.hid (by rw [← hV]; (repeat' (first | (with_reducible exact Below.refl _ _) | (with_reducible assumption) | (with_reducible refine Below.alloc ?_ ?_ _) | (with_reducible refine below_setRow ?_ ?_ _) | (with_reducible refine bl_drew ?_) | (with_reducible refine bl_drewN ?_ _) | (with_reducible refine Below.setCell ?_ ?_ _) | (with_reducible refine bl_then ?_ ?_ hb) | (with_reducible refine bl_then ?_ ?_ hb1) | (with_reducible refine bl_then ?_ ?_ hb2) | (with_reducible refine bl_then ?_ ?_ hb3) | (with_reducible refine bl_then ?_ ?_ hb4) | (with_reducible refine bl_then ?_ ?_ hb5) | (with_reducible refine bl_then ?_ ?_ hb6) | (with_reducible refine bl_then ?_ ?_ hb7) | (with_reducible refine bl_then ?_ ?_ hb8) | (with_reducible exact Nat.le_refl _) | omega | (simp only [World.size_alloc, World.size_setCell, World.size_drew, size_setRow]; omega) | (simp; omega) | (simp; done))))
  rw [hV, hB]
  clear hV
  go_loopw [3] (fun i wr => ∃ k : Nat, k ≤ 16 ∧ i = .int .i64 k ∧ Hid (wr.heap[B]? = some (.cells (rwb 16 fun j => if j < k then anK j else 0) 28 (0, 0))) ∧ Hid (wr.heap[B + 1]? = some (.cells (rwb 16 fun j => if j < k then anB j else 0) 28 (0, 0))) ∧ Hid (Below w.heap.size w wr)) (fun i _ => 16 - (intOf i).toNat)
  case atStart => exact ⟨0, by omega, rfl, HK0, HB0, HL0⟩
  case round =>
    clear HK0 HB0 HL0
    obtain ⟨k, hk, rfl, HK, HB, HL⟩ := hrel
    by_cases hlt : k < 16
    · have hki : (k : Int) < 16 := by omega
      have hk0 : (0 : Int) ≤ (k : Int) := by omega
      have hw1 : IntKind.i64.wrap (17 * (k : Int)) = 17 * (k : Int) := IntWalk.i64_in _ (by omega)
      have hw2 : IntKind.u8.wrap (17 * (k : Int)) = 17 * (k : Int) := by rw [IntKind.wrap_u8']; omega
      have hw3 : IntKind.u8.wrap (k : Int) = (k : Int) := by rw [IntKind.wrap_u8']; omega
      have HKn : Hid ((wr.setCell ⟨B, k, none⟩ (.int .u8 (k : Int))).heap[B]? = some (.cells (rwb 16 fun j => if j < k + 1 then anK j else 0) 28 (0, 0))) := Lib.hid (shut_row HK.out hlt (fun j hj => by
        unfold upd
        by_cases e : j = k
        · rw [if_pos e, if_pos (by omega), e]; rfl
        · rw [if_neg e]
          show (if j < k then anK j else 0) = _
          by_cases h : j < k
          · rw [if_pos h, if_pos (by omega)]
          · rw [if_neg h, if_neg (by omega)]))
      have HB1 : Hid ((wr.setCell ⟨B, k, none⟩ (.int .u8 (k : Int))).heap[B + 1]? = some (.cells (rwb 16 fun j => if j < k then anB j else 0) 28 (0, 0))) := Lib.hid ((heap_setCell_other _ ⟨_, _, _⟩ _ _ (by simp)).trans HB.out)
      have HBn : Hid (((wr.setCell ⟨B, k, none⟩ (.int .u8 (k : Int))).setCell ⟨B + 1, k, none⟩ (.int .u8 (17 * (k : Int)))).heap[B + 1]? = some (.cells (rwb 16 fun j => if j < k + 1 then anB j else 0) 28 (0, 0))) := Lib.hid (shut_row HB1.out hlt (fun j hj => by
        unfold upd
        by_cases e : j = k
        · rw [if_pos e, if_pos (by omega), e]; unfold anB; omega
        · rw [if_neg e]
          show (if j < k then anB j else 0) = _
          by_cases h : j < k
          · rw [if_pos h, if_pos (by omega)]
          · rw [if_neg h, if_neg (by omega)]))
      have HKm : Hid (((wr.setCell ⟨B, k, none⟩ (.int .u8 (k : Int))).setCell ⟨B + 1, k, none⟩ (.int .u8 (17 * (k : Int)))).heap[B]? = some (.cells (rwb 16 fun j => if j < k + 1 then anK j else 0) 28 (0, 0))) := Lib.hid ((heap_setCell_other _ ⟨_, _, _⟩ _ _ (by simp)).trans HKn.out)
      have fx := frozen_of_row wr B k _ _ HK.out
      have fy := frozen_of_row (wr.setCell ⟨B, k, none⟩ (.int .u8 (k : Int))) (B + 1) k _ _ HB1.out
      have cx := cell_rwb HK.out hlt
      have cy := cell_rwb HB1.out hlt
      rw [if_neg (by omega)] at cx cy
      have HLn : Hid (Below w.heap.size w ((wr.setCell ⟨B, k, none⟩ (.int .u8 (k : Int))).setCell ⟨B + 1, k, none⟩ (.int .u8 (17 * (k : Int))))) := Lib.hid ((HL.out.setCell (by simp; omega) _).setCell (by simp; omega) _)
      go_wp2_with fail
      go_roundw
      case rel =>
        first
          | exact ⟨k + 1, by omega, by go_num, HKm, HBn, HLn⟩
          | ((repeat apply Exists.intro); refine ⟨?_, rfl⟩; exact ⟨k + 1, by omega, by go_num, HKm, HBn, HLn⟩)
      case measure => first | (simp [intOf]; done) | (simp [intOf]; omega)
    · obtain rfl : k = 16 := by omega
      have HA2 : Hid (wr.heap[B]? = some (.cells (rwb 16 anK) 28 (0, 0))) := Lib.hid (by
        rw [HK.out, rwb_congr (g := anK) (fun j hj => if_pos hj)])
      have HB2 : Hid (wr.heap[B + 1]? = some (.cells (rwb 16 anB) 28 (0, 0))) := Lib.hid (by
        rw [HB.out, rwb_congr (g := anB) (fun j hj => if_pos hj)])
      clear HK HB
      go_wp2_with (first | (with_reducible refine wpList_ld rowBlock rfl (.tmp 1) rfl rfl HA2.out (by omega) (G := anK) (fun j _ => by rw [Nat.zero_add]) ?_) | (with_reducible refine wpList_ld rowBlock rfl (.tmp 2) rfl rfl HB2.out (by omega) (G := anB) (fun j _ => by rw [Nat.zero_add]) ?_))
      refine (enc_any anK anB (fun j hj => by unfold anK; omega) _).mono ?_
      rintro e w1 ⟨rfl, hb⟩
      rw [anchor]
      have hq : ∀ w, (Op.equalIn 10000 28 (.agg (rwb 16 anS10)) (.agg (rwb 16 anS10))).run Try.prog w = .ok true w := fun w => (run_eq_block anS10 anS10 w).trans (by rw [(eqb_iff anS10 anS10).2 (fun _ _ => rfl)])
      rw [show rwb 16 anS10 = _ from anchorL] at hq
      have HL9 := Lib.hid (bl_then HL.out HL.out.size hb)
      clear hb
      go_wp2_with fail
      go_ret
      exact ⟨rfl, HL9.out⟩
end Go.Proofs.Ytppponobefljgaa
