/- What is proved: the laws on every number's width and on the tables, as calls; conditions: the slices read as they are said to. -/
import Derived.Test.YtpgeohigdblooaaSpans2
set_option linter.unusedSimpArgs false
set_option linter.unusedVariables false
namespace Go.Proofs.Ytpgeohigdblooaa
open Go.RowKit
set_option maxRecDepth 100000
set_option maxHeartbeats 1000000
theorem widthof_law (A : Option Addr) (n cap : Nat) (xs : List Int) (S : Option Addr) (m cap2 : Nat) (T : List (Int × Int)) (w : World) (h : RdI w .i32 A n xs) (hn : n ≤ 140737488355328) (h2 : RdS w S m T) (hm : m ≤ 140737488355328) :
    Calls Try.prog 4 #[.slice A n cap, .slice S m cap2] w fun e w' => e = .returned (.bool true) ∧ Below w.heap.size w w' := by
  have H := Lib.hid h
  have H2 := Lib.hid h2
  have HL := Lib.hid h.len
  clear h h2
  go_enter Try.func4, Try.ntmps4
  go_wp2_with fail
  go_loopw [5] (fun i wr => ∃ k : Nat, k ≤ n ∧ i = .int .i64 k ∧ Hid (Below w.heap.size w wr)) (fun i _ => n - (intOf i).toNat)
  case atStart => exact ⟨0, Nat.zero_le _, rfl, Below.refl _ _⟩
  case round =>
    obtain ⟨k, hk, rfl, HB⟩ := hrel
    by_cases hlt : k < n
    · obtain ⟨b, off, rfl, hc⟩ := H.out.2 (by omega)
      have hbl := H.out.lt_ (by omega) rfl
      have c0 := hc k hlt
      clear hc
      generalize hx : xs.getD k 0 = x at *
      clear hx
      go_wp2_with fail
      refine wp_region_text (fun W => Below w.heap.size w W) (by kernel_rfl) (by kernel_rfl) (bl_drew HB.out) ?_
      (apply SeqL.pure; (focus (first | rfl | (go_simp; done) | (simp [Region.wanted, yielded]; done))); (focus (intro w; go_simp; with_reducible rfl)); go_simp)
      (apply SeqL.pure; (focus (first | rfl | (go_simp; done) | (simp [Region.wanted, yielded]; done))); (focus (intro w; go_simp; with_reducible rfl)); go_simp)
      (apply SeqL.pure; (focus (first | rfl | (go_simp; done) | (simp [Region.wanted, yielded]; done))); (focus (intro w; go_simp; with_reducible rfl)); go_simp)
      (apply SeqL.read; (focus (first | rfl | (go_simp; done) | (simp [Region.wanted, yielded]; done))); (focus (intro W hF; have x0 := ((bcell hF).1 _ _ hbl).trans c0; go_simp; with_reducible rfl)); go_simp)
      refine SeqL.call (.int .i64 (widthOf x)) 8 #[.int .i32 x] ?_ (fun w => by kernel_rfl) (fun W hW => (of_any x W).mono fun e w' h => ⟨h.1, bl_then hW hW.size h.2⟩) ?_
      · (first | rfl | (go_simp; done) | (simp [Region.wanted, yielded]; done))
      go_simp
      (apply SeqL.pure; (focus (first | rfl | (go_simp; done) | (simp [Region.wanted, yielded]; done))); (focus (intro w; go_simp; with_reducible rfl)); go_simp)
      (apply SeqL.pure; (focus (first | rfl | (go_simp; done) | (simp [Region.wanted, yielded]; done))); (focus (intro w; go_simp; with_reducible rfl)); go_simp)
      (apply SeqL.pure; (focus (first | rfl | (go_simp; done) | (simp [Region.wanted, yielded]; done))); (focus (intro w; go_simp; with_reducible rfl)); go_simp)
      (apply SeqL.read; (focus (first | rfl | (go_simp; done) | (simp [Region.wanted, yielded]; done))); (focus (intro W hF; have x0 := ((bcell hF).1 _ _ hbl).trans c0; go_simp; with_reducible rfl)); go_simp)
      refine SeqL.call (.int .i64 (widthOf x)) 9 #[.int .i32 x] ?_ (fun w => by kernel_rfl) (fun W hW => (rof_any x W).mono fun e w' h => ⟨h.1, bl_then hW hW.size h.2⟩) ?_
      · (first | rfl | (go_simp; done) | (simp [Region.wanted, yielded]; done))
      go_simp
      (apply SeqL.pure; (focus (first | rfl | (go_simp; done) | (simp [Region.wanted, yielded]; done))); (focus (intro w; go_simp; with_reducible rfl)); go_simp)
      (apply SeqL.pure; (focus (first | rfl | (go_simp; done) | (simp [Region.wanted, yielded]; done))); (focus (intro w; go_simp; with_reducible rfl)); go_simp)
      (apply SeqL.pure; (focus (first | rfl | (go_simp; done) | (simp [Region.wanted, yielded]; done))); (focus (intro w; go_simp; with_reducible rfl)); go_simp)
      (apply SeqL.pure; (focus (first | rfl | (go_simp; done) | (simp [Region.wanted, yielded]; done))); (focus (intro w; go_simp; with_reducible rfl)); go_simp)
      (apply SeqL.pure; (focus (first | rfl | (go_simp; done) | (simp [Region.wanted, yielded]; done))); (focus (intro w; go_simp; with_reducible rfl)); go_simp)
      (apply SeqL.pure; (focus (first | rfl | (go_simp; done) | (simp [Region.wanted, yielded]; done))); (focus (intro w; go_simp; with_reducible rfl)); go_simp)
      (apply SeqL.read; (focus (first | rfl | (go_simp; done) | (simp [Region.wanted, yielded]; done))); (focus (intro W hF; have x0 := ((bcell hF).1 _ _ hbl).trans c0; go_simp; with_reducible rfl)); go_simp)
      refine SeqL.call (.bool (inT T x)) 10 #[.slice S m cap2, .int .i32 x] ?_ (fun w => by kernel_rfl) (fun W hW => (in_any S m cap2 T x W (H2.out.below hW) hm).mono fun e w' h => ⟨h.1, bl_then hW hW.size h.2⟩) ?_
      · (first | rfl | (go_simp; done) | (simp [Region.wanted, yielded]; done))
      go_simp
      (apply SeqL.pure; (focus (first | rfl | (go_simp; done) | (simp [Region.wanted, yielded]; done))); (focus (intro w; go_simp; with_reducible rfl)); go_simp)
      (apply SeqL.pure; (focus (first | rfl | (go_simp; done) | (simp [Region.wanted, yielded]; done))); (focus (intro w; go_simp; with_reducible rfl)); go_simp)
      (apply SeqL.pure; (focus (first | rfl | (go_simp; done) | (simp [Region.wanted, yielded]; done))); (focus (intro w; go_simp; with_reducible rfl)); go_simp)
      (apply SeqL.pure; (focus (first | rfl | (go_simp; done) | (simp [Region.wanted, yielded]; done))); (focus (intro w; go_simp; with_reducible rfl)); go_simp)
      (apply SeqL.read; (focus (first | rfl | (go_simp; done) | (simp [Region.wanted, yielded]; done))); (focus (intro W hF; have x0 := ((bcell hF).1 _ _ hbl).trans c0; go_simp; with_reducible rfl)); go_simp)
      refine SeqL.call (.bool (inT T x)) 11 #[.slice S m cap2, .int .i32 x] ?_ (fun w => by kernel_rfl) (fun W hW => (rin_any S m cap2 T x W (H2.out.below hW) hm).mono fun e w' h => ⟨h.1, by rw [← h.2]; exact hW⟩) ?_
      · (first | rfl | (go_simp; done) | (simp [Region.wanted, yielded]; done))
      go_simp
      (apply SeqL.pure; (focus (first | rfl | (go_simp; done) | (simp [Region.wanted, yielded]; done))); (focus (intro w; go_simp; with_reducible rfl)); go_simp)
      (apply SeqL.pure; (focus (first | rfl | (go_simp; done) | (simp [Region.wanted, yielded]; done))); (focus (intro w; go_simp; with_reducible rfl)); go_simp)
      refine SeqL.done fun w1 hb1 => ?_
      have HB1 := Lib.hid hb1
      clear hb1
      go_wp2_with fail
      go_roundw
      case rel => exact ⟨k + 1, by omega, by go_num, HB1.out⟩
      case measure => simp [intOf]; omega
    · go_wp2_with fail
      refine (tables_any _).mono ?_
      rintro e w2 ⟨⟨v, z, rfl, ov, oz⟩, hb2⟩
      obtain ⟨V, vc, rfl, hv⟩ := RdS.of_owns wide_len ov
      obtain ⟨Z, zc, rfl, hz⟩ := RdS.of_owns zero_len oz
      clear ov oz
      have HB2 := Lib.hid (bl_then HB.out HB.out.size hb2)
      clear hb2
      have HV := Lib.hid hv
      have HZ := Lib.hid hz
      clear hv hz
      go_wp2_with fail
      refine (rtables_any _).mono ?_
      rintro e w3 ⟨rfl, hw3⟩
      have hb3 : Below w2.heap.size w2 w3 := by rw [← hw3]; (repeat' (first | (with_reducible exact Below.refl _ _) | (with_reducible assumption) | (with_reducible refine Below.alloc ?_ ?_ _) | (with_reducible refine below_setRow ?_ ?_ _) | (with_reducible refine bl_drew ?_) | (with_reducible refine bl_drewN ?_ _) | (with_reducible refine Below.setCell ?_ ?_ _) | (with_reducible refine bl_then ?_ ?_ hb) | (with_reducible refine bl_then ?_ ?_ hb1) | (with_reducible refine bl_then ?_ ?_ hb2) | (with_reducible refine bl_then ?_ ?_ hb3) | (with_reducible refine bl_then ?_ ?_ hb4) | (with_reducible refine bl_then ?_ ?_ hb5) | (with_reducible refine bl_then ?_ ?_ hb6) | (with_reducible refine bl_then ?_ ?_ hb7) | (with_reducible refine bl_then ?_ ?_ hb8) | (with_reducible exact Nat.le_refl _) | omega | (simp only [World.size_alloc, World.size_setCell, World.size_drew, size_setRow]; omega) | (simp; omega) | (simp; done)))
      have HX : Hid (RdS w3 (some ⟨w2.heap.size, 0, none⟩) 37 wideT) := by
        refine Lib.hid (RdS.table (t := 36) wide_len ?_)
        rw [← hw3]
        (simp only [heap_setRow_if, heap_alloc_if, heap_setCell_if, World.size_alloc, size_setRow, World.size_setCell]; simp)
      have HY : Hid (RdS w3 (some ⟨w2.heap.size + 1, 0, none⟩) 26 zeroT) := by
        refine Lib.hid (RdS.table (t := 36) zero_len ?_)
        rw [← hw3]
        (simp only [heap_setRow_if, heap_alloc_if, heap_setCell_if, World.size_alloc, size_setRow, World.size_setCell]; simp)
      clear hw3
      have HB3 := Lib.hid (bl_then HB2.out HB2.out.size hb3)
      have HV3 := Lib.hid (HV.out.below hb3)
      have HZ3 := Lib.hid (HZ.out.below hb3)
      clear HV HZ hb3
      go_wp2_with fail
      refine (text_any A n cap xs _ (H.out.below HB3.out) hn).mono ?_
      rintro e w4 ⟨rfl, hb4⟩
      have HB4 := Lib.hid (bl_then HB3.out HB3.out.size hb4)
      go_wp2_with fail
      refine (rtext_any A n cap xs _ (H.out.below HB4.out) hn).mono ?_
      rintro e w5 ⟨rfl, hb5⟩
      have HB5 := Lib.hid (bl_then HB4.out HB4.out.size hb5)
      have hb35 := bl_then hb4 hb4.size hb5
      have HV5 := Lib.hid (HV3.out.below hb35)
      have HZ5 := Lib.hid (HZ3.out.below hb35)
      have HX5 := Lib.hid (HX.out.below hb35)
      have HY5 := Lib.hid (HY.out.below hb35)
      clear HV3 HZ3 HX HY hb4 hb5 hb35
      go_wp2_with fail
      refine (same_any V (some ⟨w2.heap.size, 0, none⟩) 37 vc 37 wideT _ HV5.out HX5.out (by omega)).mono ?_
      rintro e w6 ⟨rfl, hb6⟩
      have HB6 := Lib.hid (bl_then HB5.out HB5.out.size hb6)
      go_wp2_with fail
      refine (same_any Z (some ⟨w2.heap.size + 1, 0, none⟩) 26 zc 26 zeroT _ (HZ5.out.below hb6) (HY5.out.below hb6) (by omega)).mono ?_
      rintro e w7 ⟨rfl, hb7⟩
      have HB7 := Lib.hid (bl_then HB6.out HB6.out.size hb7)
      clear hb6 hb7
      go_wp2_with fail
      refine (anchored_any _).mono ?_
      rintro e w8 ⟨rfl, hb8⟩
      have HB8 := Lib.hid (bl_then HB7.out HB7.out.size hb8)
      clear hb8
      go_wp2_with fail
      go_ret
      exact ⟨rfl, HB8.out⟩
end Go.Proofs.Ytpgeohigdblooaa
