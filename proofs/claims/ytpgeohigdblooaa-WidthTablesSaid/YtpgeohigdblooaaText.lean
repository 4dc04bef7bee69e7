/- What is proved: the width of texts, and the law on a text in two parts, as calls; no condition beyond those typed. -/
import Derived.Test.YtpgeohigdblooaaWidth
import Derived.Test.YtpgeohigdblooaaOrder
set_option linter.unusedSimpArgs false
set_option linter.unusedVariables false
namespace Go.Proofs.Ytpgeohigdblooaa
open Go.RowKit
set_option maxRecDepth 100000
set_option maxHeartbeats 1000000
theorem width_range (c : Int) : -1 ≤ widthOf c ∧ widthOf c ≤ 2 := by
  unfold widthOf; split
  · omega
  · split
    · omega
    · split <;> omega
/-- A text's width. -/
def textW (xs : List Int) : Int := (xs.map fun c => max (widthOf c) 0).sum
theorem textW_snoc (xs : List Int) (c : Int) : textW (xs ++ [c]) = textW xs + max (widthOf c) 0 := by simp [textW]
theorem textW_app (xs ys : List Int) : textW (xs ++ ys) = textW xs + textW ys := by simp [textW]
theorem textW_range (xs : List Int) : 0 ≤ textW xs ∧ textW xs ≤ 2 * xs.length := by
  induction xs with
  | nil => simp [textW]
  | cons c xs ih =>
    have h := width_range c
    have e : textW (c :: xs) = max (widthOf c) 0 + textW xs := by simp [textW]
    rw [e]; simp only [List.length_cons]; omega
theorem take_succ_getD (xs : List Int) (k : Nat) (h : k < xs.length) : xs.take (k + 1) = xs.take k ++ [xs.getD k 0] := by
  rw [List.take_succ_eq_append_getElem h]; simp [List.getD_eq_getElem?_getD, List.getElem?_eq_getElem h]
theorem text_any (A : Option Addr) (n cap : Nat) (xs : List Int) (w : World) (h : RdI w .i32 A n xs) (hn : n ≤ 140737488355328) :
    Calls Try.prog 7 #[.slice A n cap] w fun e w' => e = .returned (.int .i64 (textW xs)) ∧ Below w.heap.size w w' := by
  have H := Lib.hid h
  have HL := Lib.hid h.len
  clear h
  go_enter Try.func7, Try.ntmps7
  go_wp2
  go_loopw [3, 8] (fun s i wr => ∃ k : Nat, k ≤ n ∧ i = .int .i64 k ∧ s = .int .i64 (textW (xs.take k)) ∧ Hid (Below w.heap.size w wr)) (fun _ i _ => n - (intOf i).toNat)
  case atStart => exact ⟨0, Nat.zero_le _, rfl, rfl, Below.refl _ _⟩
  case round =>
    obtain ⟨k, hk, rfl, rfl, HB⟩ := hrel
    have hr := textW_range (xs.take k)
    have hl : (xs.take k).length ≤ k := List.length_take_le _ _
    by_cases hlt : k < n
    · obtain ⟨b, off, rfl, hc⟩ := H.out.2 (by omega)
      have hcell : wr.cell? ⟨b, off + k, none⟩ = some (.int .i32 (xs.getD k 0)) := ((bcell HB.out).1 b _ (H.out.lt_ (by omega) rfl)).trans (hc k hlt)
      clear hc
      generalize hx : xs.getD k 0 = x at *
      have HX := Lib.hid hx
      clear hx
      have hw := width_range x
      go_wp2_with fail
      refine (of_any x _).mono ?_
      rintro e w' ⟨rfl, hb⟩
      have HB2 := Lib.hid (bl_then HB.out (HB.out.size) hb)
      clear hb
      go_wp2_with fail
      go_roundw
      case rel =>
        refine ⟨k + 1, by omega, by go_num, ?_, HB2.out⟩
        rw [take_succ_getD xs k (by rw [HL.out]; exact hlt), HX.out, textW_snoc]
        congr 2
        omega
      case measure => simp [intOf]; omega
    · go_wp2
      go_ret
      exact ⟨ret_int (by rw [List.take_of_length_le (by rw [HL.out]; omega)]), HB.out⟩
theorem anchored_any (w : World) : Calls Try.prog 6 #[] w fun e w' => e = .returned (.bool true) ∧ Below w.heap.size w w' := by
  have h1 : widthOf 97 = 1 := by decide +kernel
  have h2 : widthOf 20013 = 2 := by decide +kernel
  have h3 : widthOf 769 = 0 := by decide +kernel
  have h4 : widthOf 10 = -1 := by decide +kernel
  have h5 : textW [97, 20013, 769, 10] = 3 := by decide +kernel
  go_enter Try.func6, Try.ntmps6
  go_wp2_with fail
  refine (of_any _ _).mono ?_
  rw [h1]
  rintro e w1 ⟨rfl, hb1⟩
  go_wp2_with fail
  refine (of_any _ _).mono ?_
  rw [h2]
  rintro e w2 ⟨rfl, hb2⟩
  go_wp2_with fail
  refine (of_any _ _).mono ?_
  rw [h3]
  rintro e w3 ⟨rfl, hb3⟩
  go_wp2_with fail
  refine (of_any _ _).mono ?_
  rw [h4]
  rintro e w4 ⟨rfl, hb4⟩
  go_wp2_with fail
  refine (text_any _ _ _ _ _ (RdI.new w4 .i32 21 [97, 20013, 769, 10] 4 rfl) (by omega)).mono ?_
  rw [h5]
  rintro e w5 ⟨rfl, hb5⟩
  go_wp2_with fail
  go_ret
  refine ⟨rfl, ?_⟩
  have k4 := bl_then (bl_then (bl_then hb1 hb1.size hb2) (Nat.le_trans hb1.size hb2.size) hb3) (Nat.le_trans hb1.size (Nat.le_trans hb2.size hb3.size)) hb4
  refine bl_then (k4.alloc k4.size _) ?_ hb5
  have := k4.size
  simp
  omega
theorem parts_any (A : Option Addr) (n cap : Nat) (xs : List Int) (m : Int) (w : World) (h : RdI w .i32 A n xs) (hn : n ≤ 140737488355328) (hcap : n ≤ cap) (hcap2 : cap ≤ 9223372036854775807) (hm : 0 ≤ m ∧ m ≤ 255) :
    Calls Try.prog 3 #[.slice A n cap, .int .u8 m] w fun e w' => e = .returned (.bool true) ∧ Below w.heap.size w w' := by
  have H := Lib.hid h
  have HL := Lib.hid h.len
  clear h
  obtain ⟨hm0, hm1⟩ := hm
  have hk0 : 0 ≤ m % ((n : Int) + 1) := Int.emod_nonneg _ (by omega)
  have hk1 : m % ((n : Int) + 1) < (n : Int) + 1 := Int.emod_lt_of_pos _ (by omega)
  go_enter Try.func3, Try.ntmps3
  go_wp2_with fail
  generalize hk : m % ((n : Int) + 1) = k at *
  obtain ⟨k, rfl⟩ := Int.eq_ofNat_of_zero_le hk0
  clear hk hk0
  have hkn : k ≤ n := by omega
  have e1 : textW (xs.take k) + textW (xs.drop k) = textW xs := by rw [← textW_app, List.take_append_drop]
  have r1 := textW_range (xs.take k)
  have r2 := textW_range (xs.drop k)
  have l1 : (xs.take k).length = k := by rw [List.length_take, HL.out]; omega
  have l2 : (xs.drop k).length = n - k := by rw [List.length_drop, HL.out]
  have E1 := Lib.hid e1
  have b1 : 0 ≤ textW (xs.take k) := r1.1
  have b2 : 0 ≤ textW (xs.drop k) := r2.1
  have b3 : textW (xs.take k) ≤ 281474976710656 := by omega
  have b4 : textW (xs.drop k) ≤ 281474976710656 := by omega
  clear e1 r1 r2 l1 l2
  have HT := Lib.hid (H.out.take hkn)
  have HD := Lib.hid (H.out.drop (c := cap) hkn hcap)
  obtain ⟨i21, hi21, hi21s⟩ : ∃ i, Try.prog.info? 21 = some i ∧ i.size = 1 := by
    obtain ⟨i, h, h2⟩ := Option.map_eq_some_iff.1 (show (Try.prog.info? 21).map (·.size) = some 1 by kernel_rfl)
    exact ⟨i, h, h2⟩
  have hs1 := fun W => run_slice_to Try.prog 22 21 Try.underlying22 i21 hi21 A n cap k (by omega) W
  have hs2 := fun W => run_slice_from Try.prog 22 21 Try.underlying22 i21 hi21 hi21s A n cap k hkn W
  clear hi21 hi21s
  generalize (if cap = k then A else A.map (·.add k)) = D at hs2 HD
  refine wp_region_text (fun W => Below w.heap.size w W) (by kernel_rfl) (by kernel_rfl) (bl_drew (Below.refl _ _)) ?_
  refine SeqL.call (.bool true) 6 #[] rfl (fun w => by kernel_rfl) (fun W hW => (anchored_any W).mono fun e w' h => ⟨h.1, bl_then hW hW.size h.2⟩) ?_
  go_simp
  (apply SeqL.pure; (focus (first | rfl | (go_simp; done) | (simp [Region.wanted, yielded]; done))); (focus (intro w; go_simp; with_reducible rfl)); go_simp)
  (apply SeqL.pure; (focus (first | rfl | (go_simp; done) | (simp [Region.wanted, yielded]; done))); (focus (intro w; go_simp; with_reducible rfl)); go_simp)
  refine SeqL.call (.int .i64 (textW xs)) 7 #[.slice A n cap] ?_ (fun w => by kernel_rfl) (fun W hW => (text_any _ _ _ _ W (H.out.below hW) (by omega)).mono fun e w' h => ⟨h.1, bl_then hW hW.size h.2⟩) ?_
  · (first | rfl | (go_simp; done) | (simp [Region.wanted, yielded]; done))
  go_simp
  (apply SeqL.pure; (focus (first | rfl | (go_simp; done) | (simp [Region.wanted, yielded]; done))); (focus (intro w; go_simp; with_reducible rfl)); go_simp)
  (apply SeqL.pure; (focus (first | rfl | (go_simp; done) | (simp [Region.wanted, yielded]; done))); (focus (intro w; go_simp; with_reducible rfl)); go_simp)
  (apply SeqL.pure; (focus (first | rfl | (go_simp; done) | (simp [Region.wanted, yielded]; done))); (focus (intro w; go_simp; with_reducible rfl)); go_simp)
  (apply SeqL.pure; (focus (first | rfl | (go_simp; done) | (simp [Region.wanted, yielded]; done))); (focus (intro w; go_simp; with_reducible rfl)); go_simp)
  refine SeqL.call (.int .i64 (textW (xs.take k))) 7 #[.slice A k k] ?_ (fun w => by kernel_rfl) (fun W hW => (text_any _ _ _ _ W (HT.out.below hW) (by omega)).mono fun e w' h => ⟨h.1, bl_then hW hW.size h.2⟩) ?_
  · (first | rfl | (go_simp; done) | (simp [Region.wanted, yielded]; done))
  go_simp
  (apply SeqL.pure; (focus (first | rfl | (go_simp; done) | (simp [Region.wanted, yielded]; done))); (focus (intro w; go_simp; with_reducible rfl)); go_simp)
  (apply SeqL.pure; (focus (first | rfl | (go_simp; done) | (simp [Region.wanted, yielded]; done))); (focus (intro w; go_simp; with_reducible rfl)); go_simp)
  (apply SeqL.pure; (focus (first | rfl | (go_simp; done) | (simp [Region.wanted, yielded]; done))); (focus (intro w; go_simp; with_reducible rfl)); go_simp)
  refine SeqL.call (.int .i64 (textW (xs.drop k))) 7 #[.slice D (n - k) (cap - k)] ?_ (fun w => by kernel_rfl) (fun W hW => (text_any _ _ _ _ W (HD.out.below hW) (by omega)).mono fun e w' h => ⟨h.1, bl_then hW hW.size h.2⟩) ?_
  · (first | rfl | (go_simp; done) | (simp [Region.wanted, yielded]; done))
  go_simp
  (apply SeqL.pure; (focus (first | rfl | (go_simp; done) | (simp [Region.wanted, yielded]; done))); (focus (intro w; go_simp; with_reducible rfl)); go_simp)
  (apply SeqL.pure; (focus (first | rfl | (go_simp; done) | (simp [Region.wanted, yielded]; done))); (focus (intro w; go_simp; with_reducible rfl)); go_simp)
  (apply SeqL.pure; (focus (first | rfl | (go_simp; done) | (simp [Region.wanted, yielded]; done))); (focus (intro w; go_simp; with_reducible rfl)); go_simp)
  (apply SeqL.pure; (focus (first | rfl | (go_simp; done) | (simp [Region.wanted, yielded]; done))); (focus (intro w; go_simp; with_reducible rfl)); go_simp)
  refine SeqL.done fun w1 hb1 => ?_
  rw [E1.out]
  have hr := textW_range xs
  have hl := HL.out
  rw [IntWalk.i64_in (textW xs) (by omega)]
  go_wp2
  go_ret
  exact ⟨by simp, hb1⟩
end Go.Proofs.Ytpgeohigdblooaa
