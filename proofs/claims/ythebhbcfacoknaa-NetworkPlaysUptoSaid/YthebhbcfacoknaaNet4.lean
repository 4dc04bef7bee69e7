/- What is proved: what New, Genuine and Put of a network do when they are called; conditions: the network is there as it is said to be. -/
import Derived.Test.YthebhbcfacoknaaNet3
import Derived.Deep.AppendLies
import Derived.Deep.RegionWith
set_option linter.unusedSimpArgs false
set_option linter.unusedVariables false
namespace Go.Proofs.Ythebhbcfacoknaa
open Go.RowKit
open Go.Maps (Keyed)
set_option maxRecDepth 100000
set_option maxHeartbeats 1000000
theorem cell_heap {w w1 : World} (h : w1.heap = w.heap) (a : Addr) : w1.cell? a = w.cell? a := World.cell?_of_block (by rw [h])
theorem frozen_heap {w w1 : World} (h : w1.heap = w.heap) (a : Addr) : w1.frozen? a = w.frozen? a := World.frozen?_of_block (by rw [h])
theorem new_any (lab : Nat → Nat) (w : World) : Calls Try.prog 6 #[] w fun e w' =>
    e = .returned (.pointer (some ⟨w.heap.size + 1, 0, none⟩)) ∧ Net w' (fun g => if g = w.heap.size + 1 then 1 else if g = w.heap.size then 2 else ext lab w.heap.size g) (w.heap.size + 1) ⟨[], [], 0, 0⟩ ∧ Below w.heap.size w w' ∧ w'.heap.size = w.heap.size + 2 := by
  have hm : ∀ w : World, (Instr.makeMap 54 none).run Try.prog w = .ok (.map (some w.heap.size)) (w.alloc (.map #[] 0)) := fun w => by kernel_rfl
  go_enter Try.func6, Try.ntmps6
  go_wp2_with fail
  go_ret
  refine ⟨rfl, ?_, by (repeat' (first | (with_reducible exact Below.refl _ _) | (with_reducible assumption) | (with_reducible refine Below.alloc ?_ ?_ _) | (with_reducible refine below_setRow ?_ ?_ _) | (with_reducible refine bl_drew ?_) | (with_reducible refine bl_drewN ?_ _) | (with_reducible refine Below.setCell ?_ ?_ _) | (with_reducible refine bl_then ?_ ?_ hb) | (with_reducible refine bl_then ?_ ?_ hb1) | (with_reducible refine bl_then ?_ ?_ hb2) | (with_reducible refine bl_then ?_ ?_ hb3) | (with_reducible refine bl_then ?_ ?_ hb4) | (with_reducible refine bl_then ?_ ?_ hb5) | (with_reducible refine bl_then ?_ ?_ hb6) | (with_reducible refine bl_then ?_ ?_ hb7) | (with_reducible refine bl_then ?_ ?_ hb8) | (with_reducible exact Nat.le_refl _) | omega | (simp only [World.size_alloc, World.size_setCell, World.size_drew, size_setRow]; omega) | (simp; omega) | (simp; done))), by simp⟩
  refine ⟨.slice none 0 0, .slice none 0 0, w.heap.size, by simp, by simp, ?_, Rows_.nil _ _ _ _, Rows_.nil _ _ _ _, ?_, Nat.le_refl _, Nat.le_refl _⟩
  · rw [heap_alloc_if, if_pos (by simp)]
    rfl
  · refine ((EV.made w).keep (w1 := (w.alloc _).alloc _) ?_).to (Nat.le_refl _) fun s x => ?_
    · rw [heap_alloc_if, if_neg (by simp)]
    · simp [NS.mem]
theorem sideNo_cases (sd : Int) : (sd = 1 ∧ sideNo sd = 0) ∨ (sd = 2 ∧ sideNo sd = 1) ∨ (sd ≠ 1 ∧ sd ≠ 2 ∧ sideNo sd = -1) := by
  unfold sideNo
  by_cases h1 : sd = 1
  · exact .inl ⟨h1, if_pos h1⟩
  · by_cases h2 : sd = 2
    · exact .inr (.inl ⟨h2, by rw [if_neg h1, if_pos h2]⟩)
    · exact .inr (.inr ⟨h1, h2, by rw [if_neg h1, if_neg h2]⟩)
theorem genuine_any (lab : Nat → Nat) (N : Nat) (s : NS) (sd : Int) (v : Value) (xs : List Int) (w : World) (h : Net w lab N s) (hs : 0 ≤ sd ∧ sd ≤ 255) (hv : BB w v xs) :
    Calls Try.prog 13 #[.pointer (some ⟨N, 0, none⟩), .int .u8 sd, v] w fun e w' => e = .returned (.bool (s.mem sd xs)) ∧ Below w.heap.size w w' ∧ w'.heap = w.heap := by
  have HV := Lib.hid hv
  have hk : okKey sd xs := ⟨hs, hv.ok, hv.len⟩
  obtain ⟨v0, v1, M, l1, l2, hN, h4, h5, h6, h7, h8⟩ := h
  (have c0 : w.cell? ⟨N, 0, none⟩ = some v0 := (cell_of_row w N 0 _ _ (0, 0) hN).trans rfl; have c1 : w.cell? ⟨N, 1, none⟩ = some v1 := (cell_of_row w N 1 _ _ (0, 0) hN).trans rfl; have c2 : w.cell? ⟨N, 2, none⟩ = some (.int .i64 s.n0) := (cell_of_row w N 2 _ _ (0, 0) hN).trans rfl; have c3 : w.cell? ⟨N, 3, none⟩ = some (.int .i64 s.n1) := (cell_of_row w N 3 _ _ (0, 0) hN).trans rfl; have c4 : w.cell? ⟨N, 4, none⟩ = some (.map (some M)) := (cell_of_row w N 4 _ _ (0, 0) hN).trans rfl)
  have HE := Lib.hid h6
  have HK := Lib.hid hk
  clear h4 h5 h6 hN hv hk c0 c1 c2 c3
  by_cases hc : sideNo sd = -1
  · have hm : s.mem sd xs = false := by
      rcases sideNo_cases sd with ⟨_, h⟩ | ⟨_, h⟩ | ⟨h1, h2, _⟩
      · omega
      · omega
      · unfold NS.mem
        rw [if_neg h1, if_neg h2]
    rw [hm]
    go_enter Try.func13, Try.ntmps13
    go_wp2_with fail
    refine wp_region_text (fun W => Below w.heap.size w W ∧ W.heap = w.heap) (by kernel_rfl) (by kernel_rfl) ⟨bl_drew (Below.refl _ _), rfl⟩ ?_
    (apply SeqL.pure; (focus (first | rfl | (go_simp; done) | (simp [Region.wanted, yielded]; done))); (focus (intro w; go_simp; with_reducible rfl)); go_simp)
    (apply SeqL.pure; (focus (first | rfl | (go_simp; done) | (simp [Region.wanted, yielded]; done))); (focus (intro w; go_simp; with_reducible rfl)); go_simp)
    refine SeqL.call (.int .i64 (-1)) 19 #[.pointer (some ⟨N, 0, none⟩), .int .u8 sd] ?_ (fun w => by kernel_rfl) (fun W hW => (side_at N sd M W hs ((cell_heap hW.2 _).trans c4)).mono fun e w' h => ⟨by rw [h.1, hc], by rw [← h.2]; exact hW⟩) ?_
    · (first | rfl | (go_simp; done) | (simp [Region.wanted, yielded]; done))
    go_simp
    (apply SeqL.pure; (focus (first | rfl | (go_simp; done) | (simp [Region.wanted, yielded]; done))); (focus (intro w; go_simp; with_reducible rfl)); go_simp)
    (apply SeqL.pure; (focus (first | rfl | (go_simp; done) | (simp [Region.wanted, yielded]; done))); (focus (intro w; go_simp; with_reducible rfl)); go_simp)
    (apply SeqL.skip; (focus (first | rfl | (go_simp; done) | (simp [Region.wanted, yielded]; done))); go_simp)
    (apply SeqL.skip; (focus (first | rfl | (go_simp; done) | (simp [Region.wanted, yielded]; done))); go_simp)
    (apply SeqL.skip; (focus (first | rfl | (go_simp; done) | (simp [Region.wanted, yielded]; done))); go_simp)
    (apply SeqL.skip; (focus (first | rfl | (go_simp; done) | (simp [Region.wanted, yielded]; done))); go_simp)
    (apply SeqL.skip; (focus (first | rfl | (go_simp; done) | (simp [Region.wanted, yielded]; done))); go_simp)
    (apply SeqL.skip; (focus (first | rfl | (go_simp; done) | (simp [Region.wanted, yielded]; done))); go_simp)
    (apply SeqL.skip; (focus (first | rfl | (go_simp; done) | (simp [Region.wanted, yielded]; done))); go_simp)
    (apply SeqL.skip; (focus (first | rfl | (go_simp; done) | (simp [Region.wanted, yielded]; done))); go_simp)
    (apply SeqL.skip; (focus (first | rfl | (go_simp; done) | (simp [Region.wanted, yielded]; done))); go_simp)
    (apply SeqL.pure; (focus (first | rfl | (go_simp; done) | (simp [Region.wanted, yielded]; done))); (focus (intro w; go_simp; with_reducible rfl)); go_simp)
    (apply SeqL.pure; (focus (first | rfl | (go_simp; done) | (simp [Region.wanted, yielded]; done))); (focus (intro w; go_simp; with_reducible rfl)); go_simp)
    refine SeqL.done fun w2 hb2 => ?_
    go_wp2_with fail
    go_ret
    exact ⟨rfl, hb2⟩
  · obtain ⟨k, hc0, hc1, hc2⟩ : ∃ k, sideNo sd = k ∧ 0 ≤ k ∧ k ≤ 1 := by
      rcases sideNo_cases sd with ⟨_, h⟩ | ⟨_, h⟩ | ⟨h1, h2, h⟩
      · exact ⟨_, h, by omega, by omega⟩
      · exact ⟨_, h, by omega, by omega⟩
      · exact absurd h hc
    go_enter Try.func13, Try.ntmps13
    go_wp2_with fail
    refine wp_region_text (fun W => Below w.heap.size w W ∧ W.heap = w.heap) (by kernel_rfl) (by kernel_rfl) ⟨bl_drew (Below.refl _ _), rfl⟩ ?_
    (apply SeqL.pure; (focus (first | rfl | (go_simp; done) | (simp [Region.wanted, yielded]; done))); (focus (intro w; go_simp; with_reducible rfl)); go_simp)
    (apply SeqL.pure; (focus (first | rfl | (go_simp; done) | (simp [Region.wanted, yielded]; done))); (focus (intro w; go_simp; with_reducible rfl)); go_simp)
    refine SeqL.call (.int .i64 k) 19 #[.pointer (some ⟨N, 0, none⟩), .int .u8 sd] ?_ (fun w => by kernel_rfl) (fun W hW => (side_at N sd M W hs ((cell_heap hW.2 _).trans c4)).mono fun e w' h => ⟨by rw [h.1, hc0], by rw [← h.2]; exact hW⟩) ?_
    · (first | rfl | (go_simp; done) | (simp [Region.wanted, yielded]; done))
    go_simp
    (apply SeqL.pure; (focus (first | rfl | (go_simp; done) | (simp [Region.wanted, yielded]; done))); (focus (intro w; go_simp; with_reducible rfl)); go_simp)
    (apply SeqL.pure; (focus (first | rfl | (go_simp; done) | (simp [Region.wanted, yielded]; done))); (focus (intro w; go_simp; with_reducible rfl)); go_simp)
    (apply SeqL.pure; (focus (first | rfl | (go_simp; done) | (simp [Region.wanted, yielded]; done))); (focus (intro w; go_simp; with_reducible rfl)); go_simp)
    (apply SeqL.pure; (focus (first | rfl | (go_simp; done) | (simp [Region.wanted, yielded]; done))); (focus (intro w; go_simp; with_reducible rfl)); go_simp)
    (apply SeqL.pure; (focus (first | rfl | (go_simp; done) | (simp [Region.wanted, yielded]; done))); (focus (intro w; go_simp; with_reducible rfl)); go_simp)
    (apply SeqL.read; (focus (first | rfl | (go_simp; done) | (simp [Region.wanted, yielded]; done))); (focus (intro W hF; have x0 := (cell_heap hF.2 _).trans c4; go_simp; with_reducible rfl)); go_simp)
    (apply SeqL.pure; (focus (first | rfl | (go_simp; done) | (simp [Region.wanted, yielded]; done))); (focus (intro w; go_simp; with_reducible rfl)); go_simp)
    (apply SeqL.pure; (focus (first | rfl | (go_simp; done) | (simp [Region.wanted, yielded]; done))); (focus (intro w; go_simp; with_reducible rfl)); go_simp)
    (apply SeqL.read; (focus (first | rfl | (go_simp; done) | (simp [Region.wanted, yielded]; done))); (focus (intro W hF; have x0 := bytes_str (HV.out.keep (w1 := W) fun b _ _ _ => by rw [hF.2]); go_simp; with_reducible rfl)); go_simp)
    (apply SeqL.pure; (focus (first | rfl | (go_simp; done) | (simp [Region.wanted, yielded]; done))); (focus (intro w; go_simp; with_reducible rfl)); go_simp)
    (apply SeqL.read; (focus (first | rfl | (go_simp; done) | (simp [Region.wanted, yielded]; done))); (focus (intro W hF; have x0 := (HE.out.keep (w1 := W) (by rw [hF.2])).lookup HK.out; unfold keyV at x0; go_simp; with_reducible rfl)); go_simp)
    (apply SeqL.pure; (focus (first | rfl | (go_simp; done) | (simp [Region.wanted, yielded]; done))); (focus (intro w; go_simp; with_reducible rfl)); go_simp)
    (apply SeqL.pure; (focus (first | rfl | (go_simp; done) | (simp [Region.wanted, yielded]; done))); (focus (intro w; go_simp; with_reducible rfl)); go_simp)
    refine SeqL.done fun w2 hb2 => ?_
    go_wp2_with fail
    go_ret
    exact ⟨rfl, hb2⟩
end Go.Proofs.Ythebhbcfacoknaa
