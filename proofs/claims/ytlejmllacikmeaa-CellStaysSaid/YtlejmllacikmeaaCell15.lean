/- What is proved: what Mark of package cell answers when it is called; no condition. -/
import Derived.Test.YtlejmllacikmeaaCell14
set_option linter.unusedSimpArgs false
set_option linter.unusedVariables false
namespace Go.Proofs.Ytlejmllacikmeaa
open Go.RowKit
set_option maxRecDepth 100000
set_option maxHeartbeats 4000000
def setM (x : Cel) (k : Nat) (c : Int) : Cel := if k = 0 then { x with m0 := c } else if k = 1 then { x with m1 := c } else { x with m2 := c }
def mkF (x : Cel) (c : Int) : Nat → Cel
  | 0 => x
  | n + 1 => if [x.m0, x.m1, x.m2].getD (2 - n) 0 = 0 then setM x (2 - n) c else mkF x c n
/-- A cell with a mark more. -/
def markS (x : Cel) (c : Int) : Cel := if widthOf c = 0 then (if x.w = 0 then x else if 2 < x.w then x else mkF x c 3) else x
def zrow : Array Value := #[.int .i32 0, .int .i32 0, .int .i32 0, .int .i32 0, .int .u8 0, .int .i64 0, .int .i64 0, .bool false, .bool false, .bool false, .bool false, .bool false, .bool false, .bool false, .bool false]
theorem setM_heap {W : World} {B : Nat} {x : Cel} {t : TypeId} (h : W.heap[B]? = some (.cells x.row t (0, 0))) {k : Nat} (hk : k < 3) (c : Int) : (W.setCell ⟨B, 1 + k, none⟩ (.int .i32 c)).heap[B]? = some (.cells (setM x k c).row t (0, 0)) := by
  refine (heap_setCell_same _ _ (1 + k) _ _ _ h).trans ?_
  rcases (by omega : k = 0 ∨ k = 1 ∨ k = 2) with rfl | rfl | rfl <;> rfl
theorem mark_any (x : Cel) (c : Int) (hw : 0 ≤ x.w ∧ x.w ≤ 255) (w : World) : Calls Try.prog 14 #[x.val, .int .i32 c] w fun e w' => e = .returned (markS x c).val ∧ Below w.heap.size w w' := by
  obtain ⟨z, hz⟩ : ∃ z, widthOf c = z := ⟨_, rfl⟩
  obtain ⟨r, hr⟩ : ∃ r, markS x c = r := ⟨_, rfl⟩
  rw [hr]
  have HR : Hid ((if z = 0 then (if x.w = 0 then x else if 2 < x.w then x else mkF x c 3) else x) = r) := Lib.hid (by rw [← hr, ← hz]; rfl)
  have HZ := Lib.hid hz
  clear hr hz
  obtain ⟨B, hB⟩ : ∃ B, w.heap.size = B := ⟨_, rfl⟩
  have e1 : x.val = .agg x.row := rfl
  rw [e1]
  clear e1
  go_enter Try.func14, Try.ntmps14
  go_wp2_with fail
  refine (of_any c _).mono ?_
  rintro e w1 ⟨rfl, hb⟩
  rw [HZ.out]
  have hsz := hb.size
  simp only [World.size_alloc, hB] at hsz
  have HX : Hid (w1.heap[B]? = some (.cells x.row 36 (0, 0))) := Lib.hid ((hb.block B (by simp [hB]; omega)).trans (by rw [← hB]; (simp only [heap_setRow_if, heap_alloc_if, heap_setCell_if, World.size_alloc, size_setRow, World.size_setCell]; simp) <;> (intros; omega)))
  have HY : Hid (w1.heap[B + 1]? = some (.cells zrow 36 (0, 0))) := Lib.hid ((hb.block (B + 1) (by simp [hB])).trans (by rw [← hB]; unfold zrow; (simp only [heap_setRow_if, heap_alloc_if, heap_setCell_if, World.size_alloc, size_setRow, World.size_setCell]; simp) <;> (intros; omega)))
  have HL : Hid (Below B w w1) := Lib.hid (by rw [← hB]; exact bl_then (by (repeat' (first | (with_reducible exact Below.refl _ _) | (with_reducible assumption) | (with_reducible refine Below.alloc ?_ ?_ _) | (with_reducible refine below_setRow ?_ ?_ _) | (with_reducible refine bl_drew ?_) | (with_reducible refine bl_drewN ?_ _) | (with_reducible refine Below.setCell ?_ ?_ _) | (with_reducible refine bl_then ?_ ?_ hb) | (with_reducible refine bl_then ?_ ?_ hb1) | (with_reducible refine bl_then ?_ ?_ hb2) | (with_reducible refine bl_then ?_ ?_ hb3) | (with_reducible refine bl_then ?_ ?_ hb4) | (with_reducible refine bl_then ?_ ?_ hb5) | (with_reducible refine bl_then ?_ ?_ hb6) | (with_reducible refine bl_then ?_ ?_ hb7) | (with_reducible refine bl_then ?_ ?_ hb8) | (with_reducible exact Nat.le_refl _) | omega | (simp only [World.size_alloc, World.size_setCell, World.size_drew, size_setRow]; omega) | (simp; omega) | (simp; done)))) (by simp; omega) hb)
  clear hb
  have HI : ∀ y : Cel, (Try.prog.info? 36).map (·.size) = some y.row.size := fun y => celInfo
  have HS : ∀ y : Cel, zrow.size = y.row.size := fun y => rfl
  have HI' := Lib.hid HI
  have HS' := Lib.hid HS
  clear HI HS
  have c4 : w1.cell? ⟨B, 4, none⟩ = some (.int .u8 x.w) := (cell_of_row w1 B 4 _ _ (0, 0) HX.out).trans rfl
  obtain ⟨wd, hwd⟩ : ∃ wd, x.w = wd := ⟨_, rfl⟩
  rw [hwd] at c4 HR hw
  clear hwd
  try rw [hB]
  have early : Hid (r = x) → True := fun _ => trivial
  clear early
  by_cases hz0 : z = 0
  · subst hz0
    rw [if_pos rfl] at HR
    by_cases h0 : wd = 0
    · subst h0
      rw [if_pos rfl] at HR
      go_wp2_with (first | (with_reducible refine wpList_ldB (HI'.out x) celRow rfl (.tmp 2) rfl rfl HX.out ?_) | (with_reducible refine wpList_stB (HI'.out x) (Cel.one x) rfl (.tmp 4) (.tmp 20) rfl rfl rfl HY.out (HS'.out x) ?_))
      refine bodyPost_ret (v := x.val) ?_ rfl ⟨by rw [← HR.out], ?_⟩
      · exact results_blk (fn := Try.f14) Try.results14 rfl (run_loadVar_blk (HI'.out x) celRow (setRow_heap _ _ _ _ _ _ HY.out))
      · (try rw [hB]); exact below_setRow HL.out (by omega) _
    · rw [if_neg h0] at HR
      have h0b : (wd == 0) = false := by simpa using h0
      by_cases h2 : 2 < wd
      · rw [if_pos h2] at HR
        go_wp2_with (first | (with_reducible refine wpList_ldB (HI'.out x) celRow rfl (.tmp 2) rfl rfl HX.out ?_) | (with_reducible refine wpList_stB (HI'.out x) (Cel.one x) rfl (.tmp 4) (.tmp 20) rfl rfl rfl HY.out (HS'.out x) ?_))
        refine bodyPost_ret (v := x.val) ?_ rfl ⟨by rw [← HR.out], ?_⟩
        · exact results_blk (fn := Try.f14) Try.results14 rfl (run_loadVar_blk (HI'.out x) celRow (setRow_heap _ _ _ _ _ _ HY.out))
        · (try rw [hB]); exact below_setRow HL.out (by omega) _
      · rw [if_neg h2] at HR
        have c1 : w1.cell? ⟨B, 1, none⟩ = some (.int .i32 x.m0) := (cell_of_row w1 B 1 _ _ (0, 0) HX.out).trans rfl
        have c2 : w1.cell? ⟨B, 2, none⟩ = some (.int .i32 x.m1) := (cell_of_row w1 B 2 _ _ (0, 0) HX.out).trans rfl
        have c3 : w1.cell? ⟨B, 3, none⟩ = some (.int .i32 x.m2) := (cell_of_row w1 B 3 _ _ (0, 0) HX.out).trans rfl
        go_wp2_with fail
        go_loopw [23] (fun i wr => ∃ k : Nat, k ≤ 3 ∧ i = .int .i64 k ∧ Hid (mkF x c (3 - k) = r) ∧ wr = w1) (fun i _ => 3 - (intOf i).toNat)
        case atStart => exact ⟨0, by omega, rfl, HR, rfl⟩
        case round =>
          obtain ⟨k, hk, rfl, HF, rfl⟩ := hrel
          by_cases hk3 : k < 3
          · have hki : (k : Int) < 3 := by omega
            have hk0 : (0 : Int) ≤ (k : Int) := by omega
            have hix := fun w => run_index_mark (w := w) x.m0 x.m1 x.m2 hk3
            have hstep : mkF x c (3 - k) = if [x.m0, x.m1, x.m2].getD k 0 = 0 then setM x k c else mkF x c (3 - (k + 1)) := by
              rcases (by omega : k = 0 ∨ k = 1 ∨ k = 2) with rfl | rfl | rfl <;> rfl
            rw [hstep] at HF
            clear hstep
            have d4 : ∃ v, wr.cell? ⟨B, 1 + k, none⟩ = some v := by
              rcases (by omega : k = 0 ∨ k = 1 ∨ k = 2) with rfl | rfl | rfl
              · exact ⟨_, c1⟩
              · exact ⟨_, c2⟩
              · exact ⟨_, c3⟩
            obtain ⟨v4, d4⟩ := d4
            have f4 := frozen_of_row wr B (1 + k) _ _ HX.out
            obtain ⟨m, hm⟩ : ∃ m, [x.m0, x.m1, x.m2].getD k 0 = m := ⟨_, rfl⟩
            rw [hm] at hix HF
            clear hm
            by_cases hm0 : m = 0
            · rw [if_pos hm0] at HF
              have hmb : (m == 0) = true := by simp [hm0]
              have HX2 : Hid ((wr.setCell ⟨B, 1 + k, none⟩ (.int .i32 c)).heap[B]? = some (.cells (setM x k c).row 36 (0, 0))) := Lib.hid (setM_heap HX.out hk3 c)
              have HY2 : Hid ((wr.setCell ⟨B, 1 + k, none⟩ (.int .i32 c)).heap[B + 1]? = some (.cells zrow 36 (0, 0))) := Lib.hid ((heap_setCell_other _ ⟨_, _, _⟩ _ _ (by simp)).trans HY.out)
              clear c1 c2 c3 c4
              go_wp2_with (first | (with_reducible refine wpList_ldB (HI'.out (setM x k c)) celRow rfl (.tmp 2) rfl rfl HX2.out ?_) | (with_reducible refine wpList_stB (HI'.out (setM x k c)) (Cel.one _) rfl (.tmp 4) (.tmp 34) rfl rfl rfl HY2.out (HS'.out _) ?_))
              refine bodyPost_ret (v := (setM x k c).val) ?_ rfl ⟨by rw [← HF.out], ?_⟩
              · exact results_blk (fn := Try.f14) Try.results14 rfl (run_loadVar_blk (HI'.out _) celRow (setRow_heap _ _ _ _ _ _ HY2.out))
              · (try rw [hB]); exact below_setRow (HL.out.setCell (by simp) _) (by omega) _
            · rw [if_neg hm0] at HF
              have hmb : (m == 0) = false := by simpa using hm0
              go_wp2_with fail
              exact ⟨⟨k + 1, by omega, by go_num, HF, trivial⟩, by simp [intOf]; omega⟩
          · obtain rfl : k = 3 := by omega
            go_wp2_with (first | (with_reducible refine wpList_ldB (HI'.out x) celRow rfl (.tmp 2) rfl rfl HX.out ?_) | (with_reducible refine wpList_stB (HI'.out x) (Cel.one x) rfl (.tmp 4) (.tmp 34) rfl rfl rfl HY.out (HS'.out x) ?_))
            refine bodyPost_ret (v := x.val) ?_ rfl ⟨by rw [← HF.out]; rfl, ?_⟩
            · exact results_blk (fn := Try.f14) Try.results14 rfl (run_loadVar_blk (HI'.out x) celRow (setRow_heap _ _ _ _ _ _ HY.out))
            · (try rw [hB]); exact below_setRow HL.out (by omega) _
  · rw [if_neg hz0] at HR
    have hzb : (z != 0) = true := by simpa using hz0
    go_wp2_with (first | (with_reducible refine wpList_ldB (HI'.out x) celRow rfl (.tmp 2) rfl rfl HX.out ?_) | (with_reducible refine wpList_stB (HI'.out x) (Cel.one x) rfl (.tmp 4) (.tmp 20) rfl rfl rfl HY.out (HS'.out x) ?_))
    refine bodyPost_ret (v := x.val) ?_ rfl ⟨by rw [← HR.out], ?_⟩
    · exact results_blk (fn := Try.f14) Try.results14 rfl (run_loadVar_blk (HI'.out x) celRow (setRow_heap _ _ _ _ _ _ HY.out))
    · (try rw [hB]); exact below_setRow HL.out (by omega) _
end Go.Proofs.Ytlejmllacikmeaa
