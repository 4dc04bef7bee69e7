/- What is proved: a network that is not there, the anchor of the laws on networks, and the law NetworkNil, as calls; no condition beyond those typed. -/
import Derived.Test.YthebhbcfacoknaaNet5
set_option linter.unusedSimpArgs false
set_option linter.unusedVariables false
namespace Go.Proofs.Ythebhbcfacoknaa
open Go.RowKit
open Go.Maps (Keyed)
set_option maxRecDepth 100000
set_option maxHeartbeats 2000000
theorem put_0 (lab : Nat → Nat) (N : Nat) (s : NS) (sd : Int) (l : Value) (w : World) (h : Net w lab N s) (hs : 0 ≤ sd ∧ sd ≤ 255) (h1 : ¬ sd = 1) (h2 : ¬ sd = 2) :
    Calls Try.prog 8 #[.pointer (some ⟨N, 0, none⟩), .int .u8 sd, l] w fun e w' => e = .returned (.int .i64 2) ∧ w' = w := by
  obtain ⟨v0, v1, M, l1, l2, hN, h4, h5, h6, h7, h8⟩ := h
  (have c0 : w.cell? ⟨N, 0, none⟩ = some v0 := (cell_of_row w N 0 _ _ (0, 0) hN).trans rfl; have c1 : w.cell? ⟨N, 1, none⟩ = some v1 := (cell_of_row w N 1 _ _ (0, 0) hN).trans rfl; have c2 : w.cell? ⟨N, 2, none⟩ = some (.int .i64 s.n0) := (cell_of_row w N 2 _ _ (0, 0) hN).trans rfl; have c3 : w.cell? ⟨N, 3, none⟩ = some (.int .i64 s.n1) := (cell_of_row w N 3 _ _ (0, 0) hN).trans rfl; have c4 : w.cell? ⟨N, 4, none⟩ = some (.map (some M)) := (cell_of_row w N 4 _ _ (0, 0) hN).trans rfl)
  have q1 := map_eq M
  have q2 := map_gd M
  have e2 : sideNo sd = -1 := by simp [sideNo, h1, h2]
  clear h4 h5 h6 h7 h8 hN c0 c1 c2 c3
  go_enter Try.func8, Try.ntmps8
  go_wp2_with fail
  refine (side_at N sd M w hs c4).mono ?_
  rintro e w1 ⟨rfl, rfl⟩
  rw [e2]
  go_wp2_with fail
  go_ret
  exact ⟨rfl, rfl⟩
theorem put_nil (sd : Int) (l : Value) (w : World) : Calls Try.prog 8 #[.pointer none, .int .u8 sd, l] w fun e w' => e = .returned (.int .i64 1) ∧ w' = w := by
  go_enter Try.func8, Try.ntmps8
  go_wp2_with fail
  go_ret
  exact ⟨rfl, rfl⟩
theorem at_nil (sd i : Int) (w : World) : Calls Try.prog 12 #[.pointer none, .int .u8 sd, .int .i64 i] w fun e w' => e = .returned (.tuple #[.slice none 0 0, .bool false]) ∧ w' = w := by
  go_enter Try.func12, Try.ntmps12
  go_wp2_with fail
  refine (side_nil sd w).mono ?_
  rintro e w1 ⟨rfl, rfl⟩
  go_wp2_with fail
  go_ret2
  exact ⟨rfl, rfl⟩
theorem lose_nil (sd i : Int) (w : World) : Calls Try.prog 16 #[.pointer none, .int .u8 sd, .int .i64 i] w fun e w' => e = .returned (.int .i64 0) ∧ w' = w := by
  go_enter Try.func16, Try.ntmps16
  go_wp2_with fail
  refine (side_nil sd w).mono ?_
  rintro e w1 ⟨rfl, rfl⟩
  go_wp2_with fail
  go_ret
  exact ⟨rfl, rfl⟩
theorem counts_nil (sd : Int) (w : World) : Calls Try.prog 17 #[.pointer none, .int .u8 sd] w fun e w' => e = .returned (.tuple #[.int .i64 0, .int .i64 0]) ∧ w' = w := by
  go_enter Try.func17, Try.ntmps17
  go_wp2_with fail
  refine (side_nil sd w).mono ?_
  rintro e w1 ⟨rfl, rfl⟩
  go_wp2_with fail
  go_ret2
  exact ⟨rfl, rfl⟩
theorem next_nil (sd : Int) (w : World) : Calls Try.prog 10 #[.pointer none, .int .u8 sd] w fun e w' => e = .returned (.tuple #[.slice none 0 0, .bool false]) ∧ Below w.heap.size w w' := by
  go_enter Try.func10, Try.ntmps10
  go_wp2_with fail
  refine (side_nil sd w).mono ?_
  rintro e w1 ⟨rfl, rfl⟩
  go_wp2_with fail
  refine wp_region_text (fun W => Below w.heap.size w W) (by kernel_rfl) (by kernel_rfl) (bl_drew (Below.refl _ _)) ?_
  (apply SeqL.pure; (focus (first | rfl | (go_simp; done) | (simp [Region.wanted, yielded]; done))); (focus (intro w; go_simp; with_reducible rfl)); go_simp)
  (apply SeqL.pure; (focus (first | rfl | (go_simp; done) | (simp [Region.wanted, yielded]; done))); (focus (intro w; go_simp; with_reducible rfl)); go_simp)
  (apply SeqL.pure; (focus (first | rfl | (go_simp; done) | (simp [Region.wanted, yielded]; done))); (focus (intro w; go_simp; with_reducible rfl)); go_simp)
  ((apply SeqL.skip; (focus (first | rfl | (go_simp; done) | (simp [Region.wanted, yielded]; done))); go_simp); (apply SeqL.skip; (focus (first | rfl | (go_simp; done) | (simp [Region.wanted, yielded]; done))); go_simp); (apply SeqL.skip; (focus (first | rfl | (go_simp; done) | (simp [Region.wanted, yielded]; done))); go_simp); (apply SeqL.skip; (focus (first | rfl | (go_simp; done) | (simp [Region.wanted, yielded]; done))); go_simp); (apply SeqL.skip; (focus (first | rfl | (go_simp; done) | (simp [Region.wanted, yielded]; done))); go_simp); (apply SeqL.skip; (focus (first | rfl | (go_simp; done) | (simp [Region.wanted, yielded]; done))); go_simp); (apply SeqL.skip; (focus (first | rfl | (go_simp; done) | (simp [Region.wanted, yielded]; done))); go_simp); (apply SeqL.skip; (focus (first | rfl | (go_simp; done) | (simp [Region.wanted, yielded]; done))); go_simp); (apply SeqL.skip; (focus (first | rfl | (go_simp; done) | (simp [Region.wanted, yielded]; done))); go_simp); (apply SeqL.skip; (focus (first | rfl | (go_simp; done) | (simp [Region.wanted, yielded]; done))); go_simp); (apply SeqL.skip; (focus (first | rfl | (go_simp; done) | (simp [Region.wanted, yielded]; done))); go_simp); (apply SeqL.skip; (focus (first | rfl | (go_simp; done) | (simp [Region.wanted, yielded]; done))); go_simp); (apply SeqL.skip; (focus (first | rfl | (go_simp; done) | (simp [Region.wanted, yielded]; done))); go_simp); (apply SeqL.skip; (focus (first | rfl | (go_simp; done) | (simp [Region.wanted, yielded]; done))); go_simp))
  (apply SeqL.pure; (focus (first | rfl | (go_simp; done) | (simp [Region.wanted, yielded]; done))); (focus (intro w; go_simp; with_reducible rfl)); go_simp)
  refine SeqL.done fun w2 hb2 => ?_
  go_wp2_with fail
  go_ret2
  exact ⟨rfl, hb2⟩
theorem genuine_nil (sd : Int) (v : Value) (w : World) : Calls Try.prog 13 #[.pointer none, .int .u8 sd, v] w fun e w' => e = .returned (.bool false) ∧ Below w.heap.size w w' := by
  go_enter Try.func13, Try.ntmps13
  go_wp2_with fail
  refine wp_region_text (fun W => Below w.heap.size w W) (by kernel_rfl) (by kernel_rfl) (bl_drew (Below.refl _ _)) ?_
  (apply SeqL.pure; (focus (first | rfl | (go_simp; done) | (simp [Region.wanted, yielded]; done))); (focus (intro w; go_simp; with_reducible rfl)); go_simp)
  (apply SeqL.pure; (focus (first | rfl | (go_simp; done) | (simp [Region.wanted, yielded]; done))); (focus (intro w; go_simp; with_reducible rfl)); go_simp)
  refine SeqL.call (.int .i64 (-1)) 19 #[.pointer none, .int .u8 sd] ?_ (fun w => by kernel_rfl) (fun W hW => (side_nil sd W).mono fun e w' h => ⟨h.1, by rw [← h.2]; exact hW⟩) ?_
  · (first | rfl | (go_simp; done) | (simp [Region.wanted, yielded]; done))
  go_simp
  (apply SeqL.pure; (focus (first | rfl | (go_simp; done) | (simp [Region.wanted, yielded]; done))); (focus (intro w; go_simp; with_reducible rfl)); go_simp)
  (apply SeqL.pure; (focus (first | rfl | (go_simp; done) | (simp [Region.wanted, yielded]; done))); (focus (intro w; go_simp; with_reducible rfl)); go_simp)
  ((apply SeqL.skip; (focus (first | rfl | (go_simp; done) | (simp [Region.wanted, yielded]; done))); go_simp); (apply SeqL.skip; (focus (first | rfl | (go_simp; done) | (simp [Region.wanted, yielded]; done))); go_simp); (apply SeqL.skip; (focus (first | rfl | (go_simp; done) | (simp [Region.wanted, yielded]; done))); go_simp); (apply SeqL.skip; (focus (first | rfl | (go_simp; done) | (simp [Region.wanted, yielded]; done))); go_simp); (apply SeqL.skip; (focus (first | rfl | (go_simp; done) | (simp [Region.wanted, yielded]; done))); go_simp); (apply SeqL.skip; (focus (first | rfl | (go_simp; done) | (simp [Region.wanted, yielded]; done))); go_simp); (apply SeqL.skip; (focus (first | rfl | (go_simp; done) | (simp [Region.wanted, yielded]; done))); go_simp); (apply SeqL.skip; (focus (first | rfl | (go_simp; done) | (simp [Region.wanted, yielded]; done))); go_simp); (apply SeqL.skip; (focus (first | rfl | (go_simp; done) | (simp [Region.wanted, yielded]; done))); go_simp))
  (apply SeqL.pure; (focus (first | rfl | (go_simp; done) | (simp [Region.wanted, yielded]; done))); (focus (intro w; go_simp; with_reducible rfl)); go_simp)
  (apply SeqL.pure; (focus (first | rfl | (go_simp; done) | (simp [Region.wanted, yielded]; done))); (focus (intro w; go_simp; with_reducible rfl)); go_simp)
  refine SeqL.done fun w2 hb2 => ?_
  go_wp2_with fail
  go_ret
  exact ⟨rfl, hb2⟩
theorem BB.lit {w : World} {g : Nat} {t : TypeId} {xs : List Int} (n : Nat) (hn : xs.length = n) (h : w.heap[g]? = some (.cells (xs.map (Value.int .u8)).toArray t (0, 0))) (hx : okB xs) (hl : n ≤ 1000) : BB w (.slice (some ⟨g, 0, none⟩) n n) xs := by
  subst hn
  refine ⟨hx, by omega, some ⟨g, 0, none⟩, xs.length, rfl, ⟨rfl, fun _ => ⟨g, 0, rfl, fun j hj => ?_⟩⟩, by simp, Nat.le_refl _, by unfold maxLen; omega⟩
  rw [Nat.zero_add, cell_of_row w g j _ t (0, 0) h]
  simp [List.getD_eq_getElem?_getD, List.getElem?_eq_getElem hj]
theorem ok1 (a : Int) (h : 0 ≤ a ∧ a ≤ 255) : okB [a] := by intro x hx; simp at hx; subst hx; exact h
theorem OwB.grown {w w' : World} {base N : Nat} {v : Value} {xs : List Int} (h : OwB w base v xs) (hg : w.grownBy w' (some N)) (hN : N < base) : OwB w' base v xs :=
  h.keep fun b hb hlt => hg.block b hlt (fun e => by have := (World.ownsRow.lt h b hb).1; injection e with e; omega)
theorem fr_below {B : Nat} {lab : Nat → Nat} {w w1 w2 : World} (h : Below B w w1) (k : Fr lab w1 w2) (hB : B ≤ w1.heap.size) (hl : ∀ g, g < B → lab g = 0) : Below B w w2 :=
  ⟨k.os.trans h.os, k.tape.trans h.tape, k.output.trans h.output, Nat.le_trans h.size k.size, fun g hg => (k.block g (by omega) (.inl (hl g hg))).trans (h.block g hg)⟩
theorem gr_below {B N : Nat} {w w1 w2 : World} (h : Below B w w1) (k : w1.grownBy w2 (some N)) (hB : B ≤ w1.heap.size) (hN : B ≤ N) : Below B w w2 := h.grown k hB (by simp; omega)
theorem anchored_any (w : World) : Calls Try.prog 14 #[] w fun e w' => e = .returned (.bool true) ∧ Below w.heap.size w w' := by
  have q1 := ptr_eq
  have q2 := ptr_gd
  go_enter Try.func14, Try.ntmps14
  go_wp2_with fail
  refine (new_any (fun _ => 0) w).mono ?_
  rintro e w1 ⟨rfl, hn1, hb1, hz1⟩
  obtain ⟨lab, HN1, hlab0⟩ : ∃ lab : Nat → Nat, Hid (Net w1 lab (w.heap.size + 1) ⟨[], [], 0, 0⟩) ∧ ∀ g, g ≠ w.heap.size → g ≠ w.heap.size + 1 → lab g = 0 := ⟨_, Lib.hid hn1, fun g h1 h2 => by
    show (if g = w.heap.size + 1 then 1 else if g = w.heap.size then 2 else ext (fun _ => 0) w.heap.size g) = 0
    rw [if_neg h2, if_neg h1]
    unfold ext
    split <;> rfl⟩
  have HB1 := Lib.hid hb1
  have HLAB := Lib.hid hlab0
  clear hn1 hb1 hlab0
  generalize hz : w.heap.size = z at *
  have HZ := Lib.hid hz1
  clear hz1
  go_wp2_with fail
  have a0 : (((w1.alloc (.cells #[.int .u8 1] 5)).alloc (.cells #[.int .u8 2] 5)).alloc (.cells #[.slice (some ⟨w1.heap.size, 0, none⟩) 1 1, .slice (some ⟨w1.heap.size + 1, 0, none⟩) 1 1] 25)).heap[w1.heap.size]? = some (.cells #[.int .u8 1] 5) := by (first | ((simp only [heap_setRow_if, heap_alloc_if, heap_setCell_if, World.size_alloc, size_setRow, World.size_setCell]; simp); done) | ((simp only [heap_setRow_if, heap_alloc_if, heap_setCell_if, World.size_alloc, size_setRow, World.size_setCell]; simp); omega))
  have a1 : (((w1.alloc (.cells #[.int .u8 1] 5)).alloc (.cells #[.int .u8 2] 5)).alloc (.cells #[.slice (some ⟨w1.heap.size, 0, none⟩) 1 1, .slice (some ⟨w1.heap.size + 1, 0, none⟩) 1 1] 25)).heap[w1.heap.size + 1]? = some (.cells #[.int .u8 2] 5) := by (first | ((simp only [heap_setRow_if, heap_alloc_if, heap_setCell_if, World.size_alloc, size_setRow, World.size_setCell]; simp); done) | ((simp only [heap_setRow_if, heap_alloc_if, heap_setCell_if, World.size_alloc, size_setRow, World.size_setCell]; simp); omega))
  have a2 : (((w1.alloc (.cells #[.int .u8 1] 5)).alloc (.cells #[.int .u8 2] 5)).alloc (.cells #[.slice (some ⟨w1.heap.size, 0, none⟩) 1 1, .slice (some ⟨w1.heap.size + 1, 0, none⟩) 1 1] 25)).heap[w1.heap.size + 1 + 1]? = some (.cells #[.slice (some ⟨w1.heap.size, 0, none⟩) 1 1, .slice (some ⟨w1.heap.size + 1, 0, none⟩) 1 1] 25) := by rw [heap_alloc_if, if_pos (by simp)]
  have hb4 : Below w1.heap.size w1 (((w1.alloc (.cells #[.int .u8 1] 5)).alloc (.cells #[.int .u8 2] 5)).alloc (.cells #[.slice (some ⟨w1.heap.size, 0, none⟩) 1 1, .slice (some ⟨w1.heap.size + 1, 0, none⟩) 1 1] 25)) := by (repeat' (first | (with_reducible exact Below.refl _ _) | (with_reducible assumption) | (with_reducible refine Below.alloc ?_ ?_ _) | (with_reducible refine below_setRow ?_ ?_ _) | (with_reducible refine bl_drew ?_) | (with_reducible refine bl_drewN ?_ _) | (with_reducible refine Below.setCell ?_ ?_ _) | (with_reducible refine bl_then ?_ ?_ hb) | (with_reducible refine bl_then ?_ ?_ hb1) | (with_reducible refine bl_then ?_ ?_ hb2) | (with_reducible refine bl_then ?_ ?_ hb3) | (with_reducible refine bl_then ?_ ?_ hb4) | (with_reducible refine bl_then ?_ ?_ hb5) | (with_reducible refine bl_then ?_ ?_ hb6) | (with_reducible refine bl_then ?_ ?_ hb7) | (with_reducible refine bl_then ?_ ?_ hb8) | (with_reducible exact Nat.le_refl _) | omega | (simp only [World.size_alloc, World.size_setCell, World.size_drew, size_setRow]; omega) | (simp; omega) | (simp; done)))
  have hz4 : (((w1.alloc (.cells #[.int .u8 1] 5)).alloc (.cells #[.int .u8 2] 5)).alloc (.cells #[.slice (some ⟨w1.heap.size, 0, none⟩) 1 1, .slice (some ⟨w1.heap.size + 1, 0, none⟩) 1 1] 25)).heap.size = w1.heap.size + 3 := by simp
  generalize (((w1.alloc (.cells #[.int .u8 1] 5)).alloc (.cells #[.int .u8 2] 5)).alloc (.cells #[.slice (some ⟨w1.heap.size, 0, none⟩) 1 1, .slice (some ⟨w1.heap.size + 1, 0, none⟩) 1 1] 25)) = w4 at a0 a1 a2 hb4 hz4 ⊢
  have hz1 := HZ.out
  have hlr : LR w4 lab (.slice (some ⟨w1.heap.size + 1 + 1, 0, none⟩) 2 2) [[1], [2]] := by
    refine ⟨_, 2, rfl, by simp, fun i hi => ?_⟩
    match i, hi with
    | 0, _ =>
      refine ⟨_, 0, _, rfl, HLAB.out _ (by omega) (by omega), (cell_of_row w4 _ 0 _ _ (0, 0) a2).trans rfl, BB.lit (xs := [1]) 1 rfl a0 (ok1 1 (by omega)) (by omega), fun g _ hg => ?_⟩
      have hg : w1.heap.size = g := by simpa [Value.ownBlock] using hg
      exact HLAB.out _ (by omega) (by omega)
    | 1, _ =>
      refine ⟨_, 0, _, rfl, HLAB.out _ (by omega) (by omega), (cell_of_row w4 _ 1 _ _ (0, 0) a2).trans rfl, BB.lit (xs := [2]) 1 rfl a1 (ok1 2 (by omega)) (by omega), fun g _ hg => ?_⟩
      have hg : w1.heap.size + 1 = g := by simpa [Value.ownBlock] using hg
      exact HLAB.out _ (by omega) (by omega)
  have HN4 : Net w4 lab (z + 1) ⟨[], [], 0, 0⟩ := HN1.out.keep (fun g hg _ _ => hb4.block g hg) (fun _ _ => rfl)
  have HB4 := Lib.hid (bl_then HB1.out (by omega) hb4)
  clear a0 a1 a2 hb4 HN1 HB1
  refine (put_1 lab (z + 1) ⟨[], [], 0, 0⟩ 1 _ [[1], [2]] w4 HN4 rfl hlr (by simp)).mono ?_
  rintro e w5 ⟨rfl, lab5, hlab5, hn5, hf5⟩
  have HN5 := Lib.hid hn5
  have HB5 := Lib.hid (fr_below HB4.out hf5 (by omega) (fun g hg => HLAB.out g (by omega) (by omega)))
  have hz5 := hf5.size
  clear hn5 hf5 hlab5 hlr HN4
  have HZ5 : Hid (z + 1 < w5.heap.size) := by show z + 1 < w5.heap.size; omega
  clear hz5 hz4 hz1 HB4
  go_wp2_with fail
  refine (next_any lab5 (z + 1) ⟨[[1], [2]], [], 0, 0⟩ 1 w5 HN5.out (by omega)).mono ?_
  rintro e w6 ⟨h6, hg6⟩
  rw [if_pos (by decide)] at h6
  obtain ⟨⟨va, rfl, hva⟩, hn6⟩ := h6
  have hva : OwB w6 w5.heap.size va [1] := hva
  have HN6 : Hid (Net w6 (ext lab5 w5.heap.size) (z + 1) ⟨[[1], [2]], [], 1, 0⟩) := hn6
  have HB6 := Lib.hid (gr_below HB5.out hg6 (by have := HZ5.out; omega) (by omega))
  have HZ6 : Hid (w5.heap.size ≤ w6.heap.size) := hg6.size
  have HVA := Lib.hid hva
  clear hva hn6 hg6 HN5
  generalize ext lab5 w5.heap.size = lab6 at HN6
  go_wp2_with fail
  refine (lose_any lab6 (z + 1) ⟨[[1], [2]], [], 1, 0⟩ 1 5 (by omega) w6 HN6.out (by omega)).mono ?_
  rintro e w7 ⟨rfl, hn7, hg7, hz7⟩
  have HN7 : Hid (Net w7 lab6 (z + 1) ⟨[[1], [2]], [], 2, 0⟩) := hn7
  have HB7 := Lib.hid (gr_below HB6.out hg7 (by have := HZ5.out; have := HZ6.out; omega) (by omega))
  have HZ7 : Hid (w5.heap.size ≤ w7.heap.size) := by show _ ≤ _; have := HZ6.out; omega
  have HVA7 := Lib.hid (HVA.out.grown hg7 HZ5.out)
  have e7 : max (0 : Int) (min 5 ((((⟨[[1], [2]], [], 1, 0⟩ : NS).half 1).length : Int) - (((⟨[[1], [2]], [], 1, 0⟩ : NS).next 1 : Nat) : Int))) = 1 := by decide
  rw [e7]
  clear hn7 hg7 hz7 HN6 HVA HB6
  go_wp2_with fail
  refine (next_any lab6 (z + 1) ⟨[[1], [2]], [], 2, 0⟩ 1 w7 HN7.out (by omega)).mono ?_
  rintro e w8 ⟨h8, hg8⟩
  rw [if_neg (by decide)] at h8
  obtain ⟨rfl, hn8⟩ := h8
  have HN8 := Lib.hid hn8
  have HB8 := Lib.hid (gr_below HB7.out hg8 (by have := HZ5.out; have := HZ7.out; omega) (by omega))
  have HZ8 : Hid (w5.heap.size ≤ w8.heap.size) := by show _ ≤ _; have := HZ7.out; have := hg8.size; omega
  have HVA8 := Lib.hid (HVA7.out.grown hg8 HZ5.out)
  clear hn8 hg8 HN7 HVA7 HB7
  generalize ext lab6 w7.heap.size = lab8 at HN8
  go_wp2_with fail
  refine (at_any lab8 (z + 1) ⟨[[1], [2]], [], 2, 0⟩ 1 1 w8 HN8.out (by omega)).mono ?_
  rintro e w9 ⟨h9, hb9⟩
  rw [if_pos (by decide)] at h9
  obtain ⟨vb, rfl, hvb⟩ := h9
  have hvb : OwB w9 w8.heap.size vb [2] := hvb
  have HN9 := Lib.hid (HN8.out.keep (lab1 := lab8) (fun g hg _ _ => hb9.block g hg) (fun _ _ => rfl))
  have HB9 := Lib.hid (bl_then HB8.out (by have := HZ5.out; have := HZ8.out; omega) hb9)
  have HVA9 := Lib.hid (HVA8.out.below hb9)
  have HVB9 := Lib.hid hvb
  have HZ9 : Hid (w5.heap.size ≤ w9.heap.size) := by show _ ≤ _; have := HZ8.out; have := hb9.size; omega
  clear hvb hb9 HN8 HVA8 HB8
  go_wp2_with fail
  -- here: the call of Same on va and a new slice
  have l1 : Hid (∀ W : World, BB (W.alloc (.cells #[.int .u8 1] 5)) (.slice (some ⟨W.heap.size, 0, none⟩) 1 1) [1]) := fun W => BB.lit (xs := [1]) (t := 5) 1 rfl (heap_alloc_last W _) (ok1 1 (by omega)) (by omega)
  have l2 : Hid (∀ W : World, BB (W.alloc (.cells #[.int .u8 2] 5)) (.slice (some ⟨W.heap.size, 0, none⟩) 1 1) [2]) := fun W => BB.lit (xs := [2]) (t := 5) 1 rfl (heap_alloc_last W _) (ok1 2 (by omega)) (by omega)
  have hal : Below w9.heap.size w9 (w9.alloc (.cells #[.int .u8 1] 5)) := by (repeat' (first | (with_reducible exact Below.refl _ _) | (with_reducible assumption) | (with_reducible refine Below.alloc ?_ ?_ _) | (with_reducible refine below_setRow ?_ ?_ _) | (with_reducible refine bl_drew ?_) | (with_reducible refine bl_drewN ?_ _) | (with_reducible refine Below.setCell ?_ ?_ _) | (with_reducible refine bl_then ?_ ?_ hb) | (with_reducible refine bl_then ?_ ?_ hb1) | (with_reducible refine bl_then ?_ ?_ hb2) | (with_reducible refine bl_then ?_ ?_ hb3) | (with_reducible refine bl_then ?_ ?_ hb4) | (with_reducible refine bl_then ?_ ?_ hb5) | (with_reducible refine bl_then ?_ ?_ hb6) | (with_reducible refine bl_then ?_ ?_ hb7) | (with_reducible refine bl_then ?_ ?_ hb8) | (with_reducible exact Nat.le_refl _) | omega | (simp only [World.size_alloc, World.size_setCell, World.size_drew, size_setRow]; omega) | (simp; omega) | (simp; done)))
  refine (same_bytes va (.slice (some ⟨w9.heap.size, 0, none⟩) 1 1) [1] [1] _ ((HVA9.out.below hal).rd (ok1 1 (by omega)) (by simp)) (l1.out w9)).mono ?_
  rintro e w10 ⟨rfl, rfl⟩
  have HN10 := Lib.hid (HN9.out.keep (lab1 := lab8) (fun g hg _ _ => hal.block g hg) (fun _ _ => rfl))
  have HB10 := Lib.hid (bl_then HB9.out (by have := HZ5.out; have := HZ9.out; omega) hal)
  have HVB10 := Lib.hid (HVB9.out.below hal)
  have hz10 : w9.heap.size ≤ (w9.alloc (.cells #[.int .u8 1] 5)).heap.size := by simp
  generalize (w9.alloc (.cells #[.int .u8 1] 5)) = w10 at HN10 HB10 HVB10 hz10 ⊢
  have HZ10 : Hid (w5.heap.size ≤ w10.heap.size) := by show _ ≤ _; have := HZ9.out; omega
  clear hal hz10 HN9 HB9 HVB9 HVA9
  go_wp2_with fail
  have hal : Below w10.heap.size w10 (w10.alloc (.cells #[.int .u8 2] 5)) := by (repeat' (first | (with_reducible exact Below.refl _ _) | (with_reducible assumption) | (with_reducible refine Below.alloc ?_ ?_ _) | (with_reducible refine below_setRow ?_ ?_ _) | (with_reducible refine bl_drew ?_) | (with_reducible refine bl_drewN ?_ _) | (with_reducible refine Below.setCell ?_ ?_ _) | (with_reducible refine bl_then ?_ ?_ hb) | (with_reducible refine bl_then ?_ ?_ hb1) | (with_reducible refine bl_then ?_ ?_ hb2) | (with_reducible refine bl_then ?_ ?_ hb3) | (with_reducible refine bl_then ?_ ?_ hb4) | (with_reducible refine bl_then ?_ ?_ hb5) | (with_reducible refine bl_then ?_ ?_ hb6) | (with_reducible refine bl_then ?_ ?_ hb7) | (with_reducible refine bl_then ?_ ?_ hb8) | (with_reducible exact Nat.le_refl _) | omega | (simp only [World.size_alloc, World.size_setCell, World.size_drew, size_setRow]; omega) | (simp; omega) | (simp; done)))
  refine (same_bytes vb (.slice (some ⟨w10.heap.size, 0, none⟩) 1 1) [2] [2] _ ((HVB10.out.below hal).rd (ok1 2 (by omega)) (by simp)) (l2.out w10)).mono ?_
  rintro e w11 ⟨rfl, rfl⟩
  have HN11 := Lib.hid (HN10.out.keep (lab1 := lab8) (fun g hg _ _ => hal.block g hg) (fun _ _ => rfl))
  have HB11 := Lib.hid (bl_then HB10.out (by have := HZ5.out; have := HZ10.out; omega) hal)
  have HVB11 := Lib.hid (HVB10.out.below hal)
  have hz11 : w10.heap.size ≤ (w10.alloc (.cells #[.int .u8 2] 5)).heap.size := by simp
  generalize (w10.alloc (.cells #[.int .u8 2] 5)) = w11 at HN11 HB11 HVB11 hz11 ⊢
  have HZ11 : Hid (w5.heap.size ≤ w11.heap.size) := by show _ ≤ _; have := HZ10.out; omega
  clear hal hz11 HN10 HB10 HVB10
  go_wp2_with fail
  refine (genuine_any lab8 (z + 1) ⟨[[1], [2]], [], 2, 0⟩ 1 vb [2] w11 HN11.out (by omega) (HVB11.out.rd (ok1 2 (by omega)) (by simp))).mono ?_
  rintro e w12 ⟨rfl, hb12, hh12⟩
  have HN12 := Lib.hid (HN11.out.keep (w1 := w12) (lab1 := lab8) (fun g hg _ _ => by rw [hh12]) (fun _ _ => rfl))
  have HB12 := Lib.hid (bl_then HB11.out (by have := HZ5.out; have := HZ11.out; omega) hb12)
  have HVB12 := Lib.hid (HVB11.out.below hb12)
  have e12 : (⟨[[1], [2]], [], 2, 0⟩ : NS).mem 1 [2] = true := by decide
  rw [e12]
  have HZ12 : Hid (w5.heap.size ≤ w12.heap.size) := by show _ ≤ _; have := HZ11.out; have := hb12.size; omega
  clear hb12 hh12 HN11 HB11 HVB11
  go_wp2_with fail
  refine (genuine_any lab8 (z + 1) ⟨[[1], [2]], [], 2, 0⟩ 2 vb [2] w12 HN12.out (by omega) (HVB12.out.rd (ok1 2 (by omega)) (by simp))).mono ?_
  rintro e w13 ⟨rfl, hb13, hh13⟩
  have e13 : (⟨[[1], [2]], [], 2, 0⟩ : NS).mem 2 [2] = false := by decide
  rw [e13]
  have HB13 := Lib.hid (bl_then HB12.out (by have := HZ5.out; have := HZ12.out; omega) hb13)
  clear hb13 hh13 HN12 HB12 HVB12
  go_wp2_with fail
  go_ret
  rw [hz]
  exact ⟨rfl, HB13.out⟩
theorem nil_law (v : Value) (xs : List Int) (w : World) (h : BB w v xs) : Calls Try.prog 5 #[v] w fun e w' => e = .returned (.bool true) ∧ Below w.heap.size w w' := by
  obtain ⟨A, cap, hv⟩ : ∃ A cap, v = .slice A xs.length cap := by obtain ⟨_, _, A, cap, h, _⟩ := h; exact ⟨A, cap, h⟩
  subst hv
  clear h
  go_enter Try.func5, Try.ntmps5
  go_wp2_with fail
  refine (next_nil 1 w).mono ?_
  rintro e w1 ⟨rfl, hb1⟩
  have HB1 := Lib.hid hb1
  clear hb1
  go_wp2_with fail
  refine (at_nil 1 0 w1).mono ?_
  rintro e w2 ⟨rfl, rfl⟩
  go_wp2_with fail
  refine (counts_nil 1 _).mono ?_
  rintro e w2 ⟨rfl, rfl⟩
  go_wp2_with fail
  refine (put_nil 1 _ _).mono ?_
  rintro e w2 ⟨rfl, h2⟩
  have hb2 : Below w.heap.size w w2 := by rw [h2]; exact HB1.out.alloc HB1.out.size _
  have HB2 := Lib.hid hb2
  clear hb2 h2
  go_wp2_with fail
  refine (lose_nil 1 1 w2).mono ?_
  rintro e w3 ⟨rfl, rfl⟩
  go_wp2_with fail
  refine (genuine_nil 1 _ _).mono ?_
  rintro e w4 ⟨rfl, hb4⟩
  have HB4 := Lib.hid (bl_then HB2.out HB2.out.size hb4)
  clear hb4
  go_wp2_with fail
  refine (anchored_any w4).mono ?_
  rintro e w5 ⟨rfl, hb5⟩
  have HB5 := Lib.hid (bl_then HB4.out HB4.out.size hb5)
  clear hb5
  go_wp2_with fail
  go_ret
  exact ⟨rfl, HB5.out⟩
end Go.Proofs.Ythebhbcfacoknaa
