/- What is proved: what May of package cell answers when it is called ; conditions: the width is a byte. -/
import Derived.Test.YtlejmllacikmeaaCell13
import Derived.ChangeKeysEq
set_option linter.unusedSimpArgs false
set_option linter.unusedVariables false
namespace Go.Proofs.Ytlejmllacikmeaa
open Go.RowKit
set_option maxRecDepth 100000
set_option maxHeartbeats 4000000
/-- Marks that may be: noughts stand behind. -/
def marksF : Bool → List Int → Bool
  | _, [] => true
  | ended, m :: ms => if m = 0 then marksF true ms else if ended then false else if widthOf m = 0 then marksF ended ms else false
def mayC (x : Cel) : Bool := if maySt x.s then (if x.w = 0 then x.c == 0 && (x.m0 == 0 && (x.m1 == 0 && x.m2 == 0)) else if 2 < x.w then false else if widthOf x.c = x.w then marksF false [x.m0, x.m1, x.m2] else false) else false
def rw32 (n : Nat) (f : Nat → Int) : Array Value := ((List.range n).map fun j => Value.int .i32 (f j)).toArray
theorem rw32_get {n i : Nat} (f : Nat → Int) (h : i < n) : (rw32 n f)[i]? = some (.int .i32 (f i)) := by simp [rw32, h]
theorem eqItems32 (d n : Nat) (a b : Nat → Int) (w : World) : ∀ is : List Nat, (∀ i ∈ is, i < n) → (Op.eqItems (d + 1) 21 1 (rw32 n a) (rw32 n b) is).run Try.prog w = .ok (is.all fun i => a i == b i) w
  | [], _ => rfl
  | i :: is, h => by
    have h1 := run_part_plain (P := Try.prog) w (e := 21) (by kernel_rfl) (xs := rw32 n a) (off := i * 1) (by rw [Nat.mul_one]; exact rw32_get a (h i (List.mem_cons_self ..)))
    have h2 := run_part_plain (P := Try.prog) w (e := 21) (by kernel_rfl) (xs := rw32 n b) (off := i * 1) (by rw [Nat.mul_one]; exact rw32_get b (h i (List.mem_cons_self ..)))
    have h3 := run_equalIn_int (P := Try.prog) w d 21 .i32 .i32 (a i) (b i) Try.underlying21
    have ih := eqItems32 d n a b w is (fun j hj => h j (List.mem_cons_of_mem _ hj))
    simp only [Op.eqItems, Sem.run_bind, h1, h2, h3, Result.andThen_ok, List.all_cons]
    cases a i == b i
    · rfl
    · simpa using ih
theorem eq34 (w : World) (x0 x1 x2 y0 y1 y2 : Int) :
    (Op.equalIn 10000 34 (.agg #[.int .i32 x0, .int .i32 x1, .int .i32 x2]) (.agg #[.int .i32 y0, .int .i32 y1, .int .i32 y2])).run Try.prog w = .ok (x0 == y0 && (x1 == y1 && x2 == y2)) w := by
  obtain ⟨i, hi⟩ := info_of_underlying (P := Try.prog) Try.underlying21
  have hc : Try.prog.cellsOf 21 = 1 := by kernel_rfl
  rw [run_equalIn_array w 9999 _ _ Try.underlying34 hi, hc]
  refine (eqItems32 9998 3 (fun j => [x0, x1, x2].getD j 0) (fun j => [y0, y1, y2].getD j 0) w [0, 1, 2] (by simp)).trans ?_
  simp
theorem run_index_mark {w : World} (m0 m1 m2 : Int) {i : Nat} (h : i < 3) : (Instr.index 34 (.agg #[.int .i32 m0, .int .i32 m1, .int .i32 m2]) (.int .i64 i)).run Try.prog w = .ok (.int .i32 ([m0, m1, m2].getD i 0)) w := by
  rcases (by omega : i = 0 ∨ i = 1 ∨ i = 2) with rfl | rfl | rfl <;> kernel_rfl
theorem may_any (x : Cel) (hw : 0 ≤ x.w ∧ x.w ≤ 255) (w : World) : Calls Try.prog 11 #[x.val] w fun e w' => e = .returned (.bool (mayC x)) ∧ Below w.heap.size w w' := by
  obtain ⟨c, m0, m1, m2, wd, s⟩ := x
  obtain ⟨r, hr⟩ : ∃ r, mayC ⟨c, m0, m1, m2, wd, s⟩ = r := ⟨_, rfl⟩
  rw [hr]
  obtain ⟨ms, hms⟩ : ∃ ms, maySt s = ms := ⟨_, rfl⟩
  have HR : Hid ((if ms then (if wd = 0 then c == 0 && (m0 == 0 && (m1 == 0 && m2 == 0)) else if 2 < wd then false else if widthOf c = wd then marksF false [m0, m1, m2] else false) else false) = r) := Lib.hid (by rw [← hr, ← hms]; rfl)
  have HMS := Lib.hid hms
  clear hr hms
  have hwd : 0 ≤ wd ∧ wd ≤ 255 := hw
  clear hw
  obtain ⟨B, hB⟩ : ∃ B, w.heap.size = B := ⟨_, rfl⟩
  unfold Cel.val Cel.row
  dsimp only
  go_enter Try.func11, Try.ntmps11
  go_wp2_with fail
  refine (maystyle_any s _).mono ?_
  rintro e w1 ⟨rfl, hb⟩
  rw [HMS.out]
  have HX : Hid (w1.heap[B]? = some (.cells (Cel.mk c m0 m1 m2 wd s).row 36 (0, 0))) := Lib.hid ((hb.block B (by simp [hB])).trans (by rw [← hB]; exact heap_alloc_last _ _))
  have HL : Hid (Below B w w1) := Lib.hid (by rw [← hB]; exact bl_then (by (repeat' (first | (with_reducible exact Below.refl _ _) | (with_reducible assumption) | (with_reducible refine Below.alloc ?_ ?_ _) | (with_reducible refine below_setRow ?_ ?_ _) | (with_reducible refine bl_drew ?_) | (with_reducible refine bl_drewN ?_ _) | (with_reducible refine Below.setCell ?_ ?_ _) | (with_reducible refine bl_then ?_ ?_ hb) | (with_reducible refine bl_then ?_ ?_ hb1) | (with_reducible refine bl_then ?_ ?_ hb2) | (with_reducible refine bl_then ?_ ?_ hb3) | (with_reducible refine bl_then ?_ ?_ hb4) | (with_reducible refine bl_then ?_ ?_ hb5) | (with_reducible refine bl_then ?_ ?_ hb6) | (with_reducible refine bl_then ?_ ?_ hb7) | (with_reducible refine bl_then ?_ ?_ hb8) | (with_reducible exact Nat.le_refl _) | omega | (simp only [World.size_alloc, World.size_setCell, World.size_drew, size_setRow]; omega) | (simp; omega) | (simp; done)))) (by simp) hb)
  clear hb
  have c0 : w1.cell? ⟨B, 0, none⟩ = some (.int .i32 c) := (cell_of_row w1 B 0 _ _ (0, 0) HX.out).trans rfl
  have c1 : w1.cell? ⟨B, 1, none⟩ = some (.int .i32 m0) := (cell_of_row w1 B 1 _ _ (0, 0) HX.out).trans rfl
  have c2 : w1.cell? ⟨B, 2, none⟩ = some (.int .i32 m1) := (cell_of_row w1 B 2 _ _ (0, 0) HX.out).trans rfl
  have c3 : w1.cell? ⟨B, 3, none⟩ = some (.int .i32 m2) := (cell_of_row w1 B 3 _ _ (0, 0) HX.out).trans rfl
  have c4 : w1.cell? ⟨B, 4, none⟩ = some (.int .u8 wd) := (cell_of_row w1 B 4 _ _ (0, 0) HX.out).trans rfl
  try rw [hB]
  cases ms
  · go_wp2_with fail
    go_ret
    exact ⟨by rw [← HR.out]; rfl, by (try rw [hB]); exact HL.out⟩
  · by_cases h0 : wd = 0
    · subst h0
      have hq := eq34
      by_cases hc : c = 0
      · subst hc
        go_wp2_with fail
        go_ret
        exact ⟨by rw [← HR.out]; simp, by (try rw [hB]); exact HL.out⟩
      · have hcb : (c == 0) = false := by simpa using hc
        go_wp2_with fail
        go_ret
        exact ⟨by rw [← HR.out]; simp [hc], by (try rw [hB]); exact HL.out⟩
    · have h0b : (wd == 0) = false := by simpa using h0
      rw [if_neg h0] at HR
      by_cases h2 : 2 < wd
      · have h2b : decide (2 < wd) = true := by simp [h2]
        go_wp2_with fail
        apply wp_region_eff _ _ (Inv.start0 w1 fun _ => False) (hm := by kernel_rfl)
        case h =>
          (apply SeqF.pure; (focus (first | rfl | (go_simp; done) | (simp [Region.wanted, yielded]; done))); (focus (intro w; go_simp; with_reducible rfl)); go_simp)
          apply SeqF.read (v := .int .u8 wd) []
          · (first | rfl | (go_simp; done) | (simp [Region.wanted, yielded]; done))
          · intro γ' W hg hI
            have x0 := ((bcell hI.belowOf).1 B 4 (lt_of_heap HX.out)).trans c4
            go_simp
          go_simp
          (apply SeqF.pure; (focus (first | rfl | (go_simp; done) | (simp [Region.wanted, yielded]; done))); (focus (intro w; go_simp; with_reducible rfl)); go_simp)
          (apply SeqF.pure; (focus (first | rfl | (go_simp; done) | (simp [Region.wanted, yielded]; done))); (focus (intro w; go_simp; with_reducible rfl)); go_simp)
          (apply SeqF.skip; (focus (first | rfl | (go_simp; done) | (simp [Region.wanted, yielded]; done))); go_simp)
          (apply SeqF.skip; (focus (first | rfl | (go_simp; done) | (simp [Region.wanted, yielded]; done))); go_simp)
          (apply SeqF.skip; (focus (first | rfl | (go_simp; done) | (simp [Region.wanted, yielded]; done))); go_simp)
          (apply SeqF.skip; (focus (first | rfl | (go_simp; done) | (simp [Region.wanted, yielded]; done))); go_simp)
          (apply SeqF.skip; (focus (first | rfl | (go_simp; done) | (simp [Region.wanted, yielded]; done))); go_simp)
          (apply SeqF.skip; (focus (first | rfl | (go_simp; done) | (simp [Region.wanted, yielded]; done))); go_simp)
          (apply SeqF.skip; (focus (first | rfl | (go_simp; done) | (simp [Region.wanted, yielded]; done))); go_simp)
          (apply SeqF.pure; (focus (first | rfl | (go_simp; done) | (simp [Region.wanted, yielded]; done))); (focus (intro w; go_simp; with_reducible rfl)); go_simp)
          apply SeqF.done
          intro w9 hI9
          have HX9 := Lib.hid ((hI9.far B (lt_of_heap HX.out) id).trans HX.out)
          have HL9 := Lib.hid (hI9.belowS HL.out (by have := lt_of_heap HX.out; omega) (by rintro g h; cases h))
          clear hI9
          go_simp
          go_wp2_with fail
          go_ret
          exact ⟨by rw [← HR.out]; simp [h2], by (try rw [hB]); exact HL9.out⟩
        case hl => rfl
        case ho => kernel_rfl
      · rw [if_neg h2] at HR
        have hwr : IntKind.i64.wrap wd = wd := IntWalk.i64_in _ (by omega)
        obtain ⟨z, hz⟩ : ∃ z, widthOf c = z := ⟨_, rfl⟩
        have HZ := Lib.hid hz
        rw [hz] at HR
        clear hz
        by_cases hzw : z = wd
        · subst hzw
          rw [if_pos rfl] at HR
          go_wp2_with fail
          apply wp_region_eff _ _ (Inv.start0 w1 fun _ => False) (hm := by kernel_rfl)
          case h =>
            (apply SeqF.pure; (focus (first | rfl | (go_simp; done) | (simp [Region.wanted, yielded]; done))); (focus (intro w; go_simp; with_reducible rfl)); go_simp)
            apply SeqF.read (v := .int .u8 z) []
            · (first | rfl | (go_simp; done) | (simp [Region.wanted, yielded]; done))
            · intro γ' W hg hI
              have x0 := ((bcell hI.belowOf).1 B 4 (lt_of_heap HX.out)).trans c4
              go_simp
            go_simp
            (apply SeqF.pure; (focus (first | rfl | (go_simp; done) | (simp [Region.wanted, yielded]; done))); (focus (intro w; go_simp; with_reducible rfl)); go_simp)
            (apply SeqF.pure; (focus (first | rfl | (go_simp; done) | (simp [Region.wanted, yielded]; done))); (focus (intro w; go_simp; with_reducible rfl)); go_simp)
            (apply SeqF.pure; (focus (first | rfl | (go_simp; done) | (simp [Region.wanted, yielded]; done))); (focus (intro w; go_simp; with_reducible rfl)); go_simp)
            apply SeqF.read (v := .int .i32 c) []
            · (first | rfl | (go_simp; done) | (simp [Region.wanted, yielded]; done))
            · intro γ' W hg hI
              have x0 := ((bcell hI.belowOf).1 B 0 (lt_of_heap HX.out)).trans c0
              go_simp
            go_simp
            apply SeqF.call (v := .int .i64 z) [] 26 #[.int .i32 c]
            · (first | rfl | (go_simp; done) | (simp [Region.wanted, yielded]; done))
            · intro w; kernel_rfl
            · exact fun γ' W hg hI => (of_any c W).mono (by rintro e W' ⟨rfl, hb⟩; exact ⟨by rw [HZ.out], hI.below hb⟩)
            go_simp
            (apply SeqF.pure; (focus (first | rfl | (go_simp; done) | (simp [Region.wanted, yielded]; done))); (focus (intro w; go_simp; with_reducible rfl)); go_simp)
            apply SeqF.read (v := .int .u8 z) []
            · (first | rfl | (go_simp; done) | (simp [Region.wanted, yielded]; done))
            · intro γ' W hg hI
              have x0 := ((bcell hI.belowOf).1 B 4 (lt_of_heap HX.out)).trans c4
              go_simp
            go_simp
            (apply SeqF.pure; (focus (first | rfl | (go_simp; done) | (simp [Region.wanted, yielded]; done))); (focus (intro w; go_simp; with_reducible rfl)); go_simp)
            (apply SeqF.pure; (focus (first | rfl | (go_simp; done) | (simp [Region.wanted, yielded]; done))); (focus (intro w; go_simp; with_reducible rfl)); go_simp)
            (apply SeqF.pure; (focus (first | rfl | (go_simp; done) | (simp [Region.wanted, yielded]; done))); (focus (intro w; go_simp; with_reducible rfl)); go_simp)
            apply SeqF.done
            intro w9 hI9
            have HX9 := Lib.hid ((hI9.far B (lt_of_heap HX.out) id).trans HX.out)
            have HL9 := Lib.hid (hI9.belowS HL.out (by have := lt_of_heap HX.out; omega) (by rintro g h; cases h))
            clear hI9
            go_simp
            have c1 : w9.cell? ⟨B, 1, none⟩ = some (.int .i32 m0) := (cell_of_row w9 B 1 _ _ (0, 0) HX9.out).trans rfl
            have c2 : w9.cell? ⟨B, 2, none⟩ = some (.int .i32 m1) := (cell_of_row w9 B 2 _ _ (0, 0) HX9.out).trans rfl
            have c3 : w9.cell? ⟨B, 3, none⟩ = some (.int .i32 m2) := (cell_of_row w9 B 3 _ _ (0, 0) HX9.out).trans rfl
            go_wp2_with fail
            clear c1 c2 c3
            go_loopw [3, 36] (fun e i wr => ∃ (k : Nat) (en : Bool), k ≤ 3 ∧ i = .int .i64 k ∧ e = .bool en ∧ Hid (marksF en ([m0, m1, m2].drop k) = r) ∧ Hid (Below B w wr)) (fun _ i _ => 3 - (intOf i).toNat)
            case atStart => exact ⟨0, false, by omega, rfl, rfl, HR, HL9⟩
            case round =>
              obtain ⟨k, en, hk, rfl, rfl, HF, HB⟩ := hrel
              by_cases hk3 : k < 3
              · have hki : (k : Int) < 3 := by omega
                have hk0 : (0 : Int) ≤ (k : Int) := by omega
                have hix := fun w => run_index_mark (w := w) m0 m1 m2 hk3
                have hdr : [m0, m1, m2].drop k = [m0, m1, m2].getD k 0 :: [m0, m1, m2].drop (k + 1) := by
                  rcases (by omega : k = 0 ∨ k = 1 ∨ k = 2) with rfl | rfl | rfl <;> rfl
                rw [hdr] at HF
                clear hdr
                obtain ⟨m, hm⟩ : ∃ m, [m0, m1, m2].getD k 0 = m := ⟨_, rfl⟩
                rw [hm] at hix HF
                clear hm
                obtain ⟨rest, hrest⟩ : ∃ l, [m0, m1, m2].drop (k + 1) = l := ⟨_, rfl⟩
                have HRE := Lib.hid hrest
                rw [hrest] at HF
                clear hrest
                by_cases hm0 : m = 0
                · subst hm0
                  have HF1 : Hid (marksF true ([m0, m1, m2].drop (k + 1)) = r) := Lib.hid (by rw [HRE.out, ← HF.out]; exact (if_pos rfl).symm)
                  go_wp2_with fail
                  exact ⟨⟨k + 1, true, by omega, by go_num, rfl, HF1, HB⟩, by simp [intOf]; omega⟩
                · have hmb : (m == 0) = false := by simpa using hm0
                  have HF0 : Hid ((if en then false else if widthOf m = 0 then marksF en rest else false) = r) := Lib.hid (by rw [← HF.out]; exact (if_neg hm0).symm)
                  cases en
                  · obtain ⟨y, hy⟩ : ∃ y, widthOf m = y := ⟨_, rfl⟩
                    have HY := Lib.hid hy
                    rw [hy] at HF0
                    clear hy
                    go_wp2_with fail
                    refine (of_any m _).mono ?_
                    rintro e w5 ⟨rfl, hb⟩
                    have HB5 := Lib.hid (bl_then HB.out (by have := HB.out.size; omega) hb)
                    rw [HY.out]
                    clear hb
                    by_cases hy0 : y = 0
                    · subst hy0
                      have HF1 : Hid (marksF false ([m0, m1, m2].drop (k + 1)) = r) := Lib.hid (by rw [HRE.out, ← HF0.out]; rfl)
                      go_wp2_with fail
                      exact ⟨⟨k + 1, false, by omega, by go_num, rfl, HF1, HB5⟩, by simp [intOf]; omega⟩
                    · have hyb : (y != 0) = true := by simpa using hy0
                      go_wp2_with fail
                      go_ret
                      exact ⟨by rw [← HF0.out]; simp [hy0], by (try rw [hB]); exact HB5.out⟩
                  · go_wp2_with fail
                    go_ret
                    exact ⟨by rw [← HF0.out]; rfl, by (try rw [hB]); exact HB.out⟩
              · obtain rfl : k = 3 := by omega
                go_wp2_with fail
                go_ret
                exact ⟨by rw [← HF.out]; rfl, by (try rw [hB]); exact HB.out⟩
          case hl => rfl
          case ho => kernel_rfl
        · rw [if_neg hzw] at HR
          have hzb : (z != wd) = true := by simpa using hzw
          go_wp2_with fail
          apply wp_region_eff _ _ (Inv.start0 w1 fun _ => False) (hm := by kernel_rfl)
          case h =>
            (apply SeqF.pure; (focus (first | rfl | (go_simp; done) | (simp [Region.wanted, yielded]; done))); (focus (intro w; go_simp; with_reducible rfl)); go_simp)
            apply SeqF.read (v := .int .u8 wd) []
            · (first | rfl | (go_simp; done) | (simp [Region.wanted, yielded]; done))
            · intro γ' W hg hI
              have x0 := ((bcell hI.belowOf).1 B 4 (lt_of_heap HX.out)).trans c4
              go_simp
            go_simp
            (apply SeqF.pure; (focus (first | rfl | (go_simp; done) | (simp [Region.wanted, yielded]; done))); (focus (intro w; go_simp; with_reducible rfl)); go_simp)
            (apply SeqF.pure; (focus (first | rfl | (go_simp; done) | (simp [Region.wanted, yielded]; done))); (focus (intro w; go_simp; with_reducible rfl)); go_simp)
            (apply SeqF.pure; (focus (first | rfl | (go_simp; done) | (simp [Region.wanted, yielded]; done))); (focus (intro w; go_simp; with_reducible rfl)); go_simp)
            apply SeqF.read (v := .int .i32 c) []
            · (first | rfl | (go_simp; done) | (simp [Region.wanted, yielded]; done))
            · intro γ' W hg hI
              have x0 := ((bcell hI.belowOf).1 B 0 (lt_of_heap HX.out)).trans c0
              go_simp
            go_simp
            apply SeqF.call (v := .int .i64 z) [] 26 #[.int .i32 c]
            · (first | rfl | (go_simp; done) | (simp [Region.wanted, yielded]; done))
            · intro w; kernel_rfl
            · exact fun γ' W hg hI => (of_any c W).mono (by rintro e W' ⟨rfl, hb⟩; exact ⟨by rw [HZ.out], hI.below hb⟩)
            go_simp
            (apply SeqF.pure; (focus (first | rfl | (go_simp; done) | (simp [Region.wanted, yielded]; done))); (focus (intro w; go_simp; with_reducible rfl)); go_simp)
            apply SeqF.read (v := .int .u8 wd) []
            · (first | rfl | (go_simp; done) | (simp [Region.wanted, yielded]; done))
            · intro γ' W hg hI
              have x0 := ((bcell hI.belowOf).1 B 4 (lt_of_heap HX.out)).trans c4
              go_simp
            go_simp
            (apply SeqF.pure; (focus (first | rfl | (go_simp; done) | (simp [Region.wanted, yielded]; done))); (focus (intro w; go_simp; with_reducible rfl)); go_simp)
            (apply SeqF.pure; (focus (first | rfl | (go_simp; done) | (simp [Region.wanted, yielded]; done))); (focus (intro w; go_simp; with_reducible rfl)); go_simp)
            (apply SeqF.pure; (focus (first | rfl | (go_simp; done) | (simp [Region.wanted, yielded]; done))); (focus (intro w; go_simp; with_reducible rfl)); go_simp)
            apply SeqF.done
            intro w9 hI9
            have HX9 := Lib.hid ((hI9.far B (lt_of_heap HX.out) id).trans HX.out)
            have HL9 := Lib.hid (hI9.belowS HL.out (by have := lt_of_heap HX.out; omega) (by rintro g h; cases h))
            clear hI9
            go_simp
            go_wp2_with fail
            go_ret
            exact ⟨by rw [← HR.out]; rfl, by (try rw [hB]); exact HL9.out⟩
          case hl => rfl
          case ho => kernel_rfl
end Go.Proofs.Ytlejmllacikmeaa
