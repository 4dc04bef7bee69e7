/- What is proved: what the laws of package wayfarerlaw09 come to when they are called; no condition beyond those typed. -/
import Derived.Test.YtifophgaokoojaaClock
import Derived.Test.YtifophgaokoojaaOrder
set_option linter.unusedSimpArgs false
set_option linter.unusedVariables false
namespace Go.Proofs.Ytifophgaokoojaa
open Go.RowKit
set_option maxRecDepth 100000
set_option maxHeartbeats 1000000
theorem anchored_any (w : World) : Calls Try.prog 10 #[] w fun e w' => e = .returned (.bool true) ∧ Below w.heap.size w w' := by
  have e1 : smpA false 0 0 = true := by decide +kernel
  have e2 : smpM false 0 0 100 = 800 := by decide +kernel
  go_enter Try.func10, Try.ntmps10
  go_wp2_with fail
  refine (start_any _).mono ?_
  rintro e w1 ⟨rfl, hb1⟩
  have hz1 := hb1.size
  go_wp2_with fail
  refine (sample_any _ _ _ _ _ (by omega)).mono ?_
  rw [show smpA false 0 0 = true by decide +kernel, show smpM false 0 0 100 = 800 by decide +kernel, show smpS false 0 0 100 = 200 by decide +kernel, show errA false 0 0 = 0 by decide +kernel]
  rintro e w2 ⟨rfl, hb2⟩
  have hz2 := hb2.size
  go_wp2_with fail
  refine (sample_any _ _ _ _ _ (by omega)).mono ?_
  rw [show smpA true 800 200 = true by decide +kernel, show smpM true 800 200 60 = 760 by decide +kernel, show smpS true 800 200 60 = 190 by decide +kernel, show errA true 800 200 = 0 by decide +kernel]
  rintro e w3 ⟨rfl, hb3⟩
  obtain ⟨hc, hf⟩ := bcell hb3; have hz3 := hb3.size; (try simp only [World.size_alloc, World.size_setCell, size_setRow] at hz3 hc hf); clear hf
  have xa : w3.cell? ⟨w2.heap.size, 0, none⟩ = some (.bool true) := (hc _ _ (by omega)).trans (by first | (go_simp; done) | ((repeat rw [World.cell?_alloc_lt _ _ _ (by (try simp only [World.size_alloc]); omega)]); first | assumption | (go_simp; done))); have xb : w3.cell? ⟨w2.heap.size, 1, none⟩ = some (.int .i64 800) := (hc _ _ (by omega)).trans (by first | (go_simp; done) | ((repeat rw [World.cell?_alloc_lt _ _ _ (by (try simp only [World.size_alloc]); omega)]); first | assumption | (go_simp; done))); have xc : w3.cell? ⟨w2.heap.size, 2, none⟩ = some (.int .i64 200) := (hc _ _ (by omega)).trans (by first | (go_simp; done) | ((repeat rw [World.cell?_alloc_lt _ _ _ (by (try simp only [World.size_alloc]); omega)]); first | assumption | (go_simp; done)))
  clear hc
  go_wp2_with fail
  refine (timeout_any _ _ _ _).mono ?_
  rw [show tmo true 760 190 = 285 by decide +kernel, show errA true 760 190 = 0 by decide +kernel]
  rintro e w4 ⟨rfl, hb4⟩
  obtain ⟨hc, hf⟩ := bcell hb4; have hz4 := hb4.size; (try simp only [World.size_alloc, World.size_setCell, size_setRow] at hz4 hc hf); clear hf
  have ya : w4.cell? ⟨w2.heap.size, 0, none⟩ = some (.bool true) := (hc _ _ (by omega)).trans (by first | (go_simp; done) | ((repeat rw [World.cell?_alloc_lt _ _ _ (by (try simp only [World.size_alloc]); omega)]); first | assumption | (go_simp; done))); have yb : w4.cell? ⟨w2.heap.size, 1, none⟩ = some (.int .i64 800) := (hc _ _ (by omega)).trans (by first | (go_simp; done) | ((repeat rw [World.cell?_alloc_lt _ _ _ (by (try simp only [World.size_alloc]); omega)]); first | assumption | (go_simp; done))); have yc : w4.cell? ⟨w2.heap.size, 2, none⟩ = some (.int .i64 200) := (hc _ _ (by omega)).trans (by first | (go_simp; done) | ((repeat rw [World.cell?_alloc_lt _ _ _ (by (try simp only [World.size_alloc]); omega)]); first | assumption | (go_simp; done)))
  have za : w4.cell? ⟨w3.heap.size, 0, none⟩ = some (.bool true) := (hc _ _ (by omega)).trans (by first | (go_simp; done) | ((repeat rw [World.cell?_alloc_lt _ _ _ (by (try simp only [World.size_alloc]); omega)]); first | assumption | (go_simp; done))); have zb : w4.cell? ⟨w3.heap.size, 1, none⟩ = some (.int .i64 760) := (hc _ _ (by omega)).trans (by first | (go_simp; done) | ((repeat rw [World.cell?_alloc_lt _ _ _ (by (try simp only [World.size_alloc]); omega)]); first | assumption | (go_simp; done))); have zc : w4.cell? ⟨w3.heap.size, 2, none⟩ = some (.int .i64 190) := (hc _ _ (by omega)).trans (by first | (go_simp; done) | ((repeat rw [World.cell?_alloc_lt _ _ _ (by (try simp only [World.size_alloc]); omega)]); first | assumption | (go_simp; done)))
  clear hc
  go_wp2_with fail
  refine (since_any 3 65534 _ (by omega) (by omega)).mono ?_
  rintro e w5 ⟨rfl, rfl⟩
  go_wp2_with fail
  go_ret
  exact ⟨rfl, by (repeat' (first | (with_reducible exact Below.refl _ _) | (with_reducible assumption) | (with_reducible refine Below.alloc ?_ ?_ _) | (with_reducible refine below_setRow ?_ ?_ _) | (with_reducible refine bl_drew ?_) | (with_reducible refine bl_drewN ?_ _) | (with_reducible refine Below.setCell ?_ ?_ _) | (with_reducible refine bl_then ?_ ?_ hb) | (with_reducible refine bl_then ?_ ?_ hb1) | (with_reducible refine bl_then ?_ ?_ hb2) | (with_reducible refine bl_then ?_ ?_ hb3) | (with_reducible refine bl_then ?_ ?_ hb4) | (with_reducible refine bl_then ?_ ?_ hb5) | (with_reducible refine bl_then ?_ ?_ hb6) | (with_reducible refine bl_then ?_ ?_ hb7) | (with_reducible refine bl_then ?_ ?_ hb8) | (with_reducible exact Nat.le_refl _) | omega | (simp only [World.size_alloc, World.size_setCell, World.size_drew, size_setRow]; omega) | (simp; omega) | (simp; done)))⟩
theorem all_any (a : Bool) (m s n t : Int) (w : World) (hn : 0 ≤ n ∧ n ≤ 65535) (ht : 0 ≤ t ∧ t ≤ 65535) : Calls Try.prog 5 #[.agg #[.bool a, .int .i64 m, .int .i64 s], .int .u16 n, .int .u16 t] w fun e w' =>
    e = .returned (.bool true) ∧ Below w.heap.size w w' := by
  have hq := eqRtt
  go_enter Try.func5, Try.ntmps5
  go_wp2_with fail
  refine (sample_any _ _ _ _ _ hn).mono ?_
  rintro e w1 ⟨rfl, hb1⟩
  obtain ⟨hc, hf⟩ := bcell hb1; have hz1 := hb1.size; (try simp only [World.size_alloc, World.size_setCell, size_setRow] at hz1 hc hf); clear hf
  have n1 : w.heap.size < w1.heap.size := by omega
  have p1a : w1.cell? ⟨w.heap.size, 0, none⟩ = some (.bool a) := (hc _ _ (by omega)).trans (by first | (go_simp; done) | ((repeat rw [World.cell?_alloc_lt _ _ _ (by (try simp only [World.size_alloc]); omega)]); first | assumption | (go_simp; done))); have p1b : w1.cell? ⟨w.heap.size, 1, none⟩ = some (.int .i64 m) := (hc _ _ (by omega)).trans (by first | (go_simp; done) | ((repeat rw [World.cell?_alloc_lt _ _ _ (by (try simp only [World.size_alloc]); omega)]); first | assumption | (go_simp; done))); have p1c : w1.cell? ⟨w.heap.size, 2, none⟩ = some (.int .i64 s) := (hc _ _ (by omega)).trans (by first | (go_simp; done) | ((repeat rw [World.cell?_alloc_lt _ _ _ (by (try simp only [World.size_alloc]); omega)]); first | assumption | (go_simp; done)))
  clear hc
  go_wp2_with fail
  refine (rsample_any _ _ _ _ _ hn).mono ?_
  rintro e w2 ⟨rfl, hb2⟩
  obtain ⟨hc, hf⟩ := bcell hb2; have hz2 := hb2.size; (try simp only [World.size_alloc, World.size_setCell, size_setRow] at hz2 hc hf); clear hf
  have n2 : w1.heap.size < w2.heap.size := by omega
  have n2' : w.heap.size < w2.heap.size := by omega
  have p2a : w2.cell? ⟨w.heap.size, 0, none⟩ = some (.bool a) := (hc _ _ (by omega)).trans (by first | (go_simp; done) | ((repeat rw [World.cell?_alloc_lt _ _ _ (by (try simp only [World.size_alloc]); omega)]); first | assumption | (go_simp; done))); have p2b : w2.cell? ⟨w.heap.size, 1, none⟩ = some (.int .i64 m) := (hc _ _ (by omega)).trans (by first | (go_simp; done) | ((repeat rw [World.cell?_alloc_lt _ _ _ (by (try simp only [World.size_alloc]); omega)]); first | assumption | (go_simp; done))); have p2c : w2.cell? ⟨w.heap.size, 2, none⟩ = some (.int .i64 s) := (hc _ _ (by omega)).trans (by first | (go_simp; done) | ((repeat rw [World.cell?_alloc_lt _ _ _ (by (try simp only [World.size_alloc]); omega)]); first | assumption | (go_simp; done)))
  have q2a : w2.cell? ⟨w1.heap.size, 0, none⟩ = some (.bool (smpA a m s)) := (hc _ _ (by omega)).trans (by first | (go_simp; done) | ((repeat rw [World.cell?_alloc_lt _ _ _ (by (try simp only [World.size_alloc]); omega)]); first | assumption | (go_simp; done))); have q2b : w2.cell? ⟨w1.heap.size, 1, none⟩ = some (.int .i64 (smpM a m s n)) := (hc _ _ (by omega)).trans (by first | (go_simp; done) | ((repeat rw [World.cell?_alloc_lt _ _ _ (by (try simp only [World.size_alloc]); omega)]); first | assumption | (go_simp; done))); have q2c : w2.cell? ⟨w1.heap.size, 2, none⟩ = some (.int .i64 (smpS a m s n)) := (hc _ _ (by omega)).trans (by first | (go_simp; done) | ((repeat rw [World.cell?_alloc_lt _ _ _ (by (try simp only [World.size_alloc]); omega)]); first | assumption | (go_simp; done)))
  clear hc
  go_wp2_with fail
  refine (timeout_any _ _ _ _).mono ?_
  rintro e w3 ⟨rfl, hb3⟩
  obtain ⟨hc, hf⟩ := bcell hb3; have hz3 := hb3.size; (try simp only [World.size_alloc, World.size_setCell, size_setRow] at hz3 hc hf); clear hf
  have p3a : w3.cell? ⟨w.heap.size, 0, none⟩ = some (.bool a) := (hc _ _ (by omega)).trans (by first | (go_simp; done) | ((repeat rw [World.cell?_alloc_lt _ _ _ (by (try simp only [World.size_alloc]); omega)]); first | assumption | (go_simp; done))); have p3b : w3.cell? ⟨w.heap.size, 1, none⟩ = some (.int .i64 m) := (hc _ _ (by omega)).trans (by first | (go_simp; done) | ((repeat rw [World.cell?_alloc_lt _ _ _ (by (try simp only [World.size_alloc]); omega)]); first | assumption | (go_simp; done))); have p3c : w3.cell? ⟨w.heap.size, 2, none⟩ = some (.int .i64 s) := (hc _ _ (by omega)).trans (by first | (go_simp; done) | ((repeat rw [World.cell?_alloc_lt _ _ _ (by (try simp only [World.size_alloc]); omega)]); first | assumption | (go_simp; done)))
  have q3a : w3.cell? ⟨w1.heap.size, 0, none⟩ = some (.bool (smpA a m s)) := (hc _ _ (by omega)).trans (by first | (go_simp; done) | ((repeat rw [World.cell?_alloc_lt _ _ _ (by (try simp only [World.size_alloc]); omega)]); first | assumption | (go_simp; done))); have q3b : w3.cell? ⟨w1.heap.size, 1, none⟩ = some (.int .i64 (smpM a m s n)) := (hc _ _ (by omega)).trans (by first | (go_simp; done) | ((repeat rw [World.cell?_alloc_lt _ _ _ (by (try simp only [World.size_alloc]); omega)]); first | assumption | (go_simp; done))); have q3c : w3.cell? ⟨w1.heap.size, 2, none⟩ = some (.int .i64 (smpS a m s n)) := (hc _ _ (by omega)).trans (by first | (go_simp; done) | ((repeat rw [World.cell?_alloc_lt _ _ _ (by (try simp only [World.size_alloc]); omega)]); first | assumption | (go_simp; done)))
  have r3a : w3.cell? ⟨w2.heap.size, 0, none⟩ = some (.bool (smpA a m s)) := (hc _ _ (by omega)).trans (by first | (go_simp; done) | ((repeat rw [World.cell?_alloc_lt _ _ _ (by (try simp only [World.size_alloc]); omega)]); first | assumption | (go_simp; done))); have r3b : w3.cell? ⟨w2.heap.size, 1, none⟩ = some (.int .i64 (smpM a m s n)) := (hc _ _ (by omega)).trans (by first | (go_simp; done) | ((repeat rw [World.cell?_alloc_lt _ _ _ (by (try simp only [World.size_alloc]); omega)]); first | assumption | (go_simp; done))); have r3c : w3.cell? ⟨w2.heap.size, 2, none⟩ = some (.int .i64 (smpS a m s n)) := (hc _ _ (by omega)).trans (by first | (go_simp; done) | ((repeat rw [World.cell?_alloc_lt _ _ _ (by (try simp only [World.size_alloc]); omega)]); first | assumption | (go_simp; done)))
  clear hc
  go_wp2_with fail
  refine (rtimeout_any _ _ _ _).mono ?_
  rintro e w4 ⟨rfl, hb4⟩
  obtain ⟨hc, hf⟩ := bcell hb4; have hz4 := hb4.size; (try simp only [World.size_alloc, World.size_setCell, size_setRow] at hz4 hc hf); clear hf
  have p4a : w4.cell? ⟨w.heap.size, 0, none⟩ = some (.bool a) := (hc _ _ (by omega)).trans (by first | (go_simp; done) | ((repeat rw [World.cell?_alloc_lt _ _ _ (by (try simp only [World.size_alloc]); omega)]); first | assumption | (go_simp; done))); have p4b : w4.cell? ⟨w.heap.size, 1, none⟩ = some (.int .i64 m) := (hc _ _ (by omega)).trans (by first | (go_simp; done) | ((repeat rw [World.cell?_alloc_lt _ _ _ (by (try simp only [World.size_alloc]); omega)]); first | assumption | (go_simp; done))); have p4c : w4.cell? ⟨w.heap.size, 2, none⟩ = some (.int .i64 s) := (hc _ _ (by omega)).trans (by first | (go_simp; done) | ((repeat rw [World.cell?_alloc_lt _ _ _ (by (try simp only [World.size_alloc]); omega)]); first | assumption | (go_simp; done)))
  have q4a : w4.cell? ⟨w1.heap.size, 0, none⟩ = some (.bool (smpA a m s)) := (hc _ _ (by omega)).trans (by first | (go_simp; done) | ((repeat rw [World.cell?_alloc_lt _ _ _ (by (try simp only [World.size_alloc]); omega)]); first | assumption | (go_simp; done))); have q4b : w4.cell? ⟨w1.heap.size, 1, none⟩ = some (.int .i64 (smpM a m s n)) := (hc _ _ (by omega)).trans (by first | (go_simp; done) | ((repeat rw [World.cell?_alloc_lt _ _ _ (by (try simp only [World.size_alloc]); omega)]); first | assumption | (go_simp; done))); have q4c : w4.cell? ⟨w1.heap.size, 2, none⟩ = some (.int .i64 (smpS a m s n)) := (hc _ _ (by omega)).trans (by first | (go_simp; done) | ((repeat rw [World.cell?_alloc_lt _ _ _ (by (try simp only [World.size_alloc]); omega)]); first | assumption | (go_simp; done)))
  have r4a : w4.cell? ⟨w2.heap.size, 0, none⟩ = some (.bool (smpA a m s)) := (hc _ _ (by omega)).trans (by first | (go_simp; done) | ((repeat rw [World.cell?_alloc_lt _ _ _ (by (try simp only [World.size_alloc]); omega)]); first | assumption | (go_simp; done))); have r4b : w4.cell? ⟨w2.heap.size, 1, none⟩ = some (.int .i64 (smpM a m s n)) := (hc _ _ (by omega)).trans (by first | (go_simp; done) | ((repeat rw [World.cell?_alloc_lt _ _ _ (by (try simp only [World.size_alloc]); omega)]); first | assumption | (go_simp; done))); have r4c : w4.cell? ⟨w2.heap.size, 2, none⟩ = some (.int .i64 (smpS a m s n)) := (hc _ _ (by omega)).trans (by first | (go_simp; done) | ((repeat rw [World.cell?_alloc_lt _ _ _ (by (try simp only [World.size_alloc]); omega)]); first | assumption | (go_simp; done)))
  clear hc
  go_wp2_with fail
  refine (pace_any _ _ _ _).mono ?_
  rintro e w5 ⟨rfl, hb5⟩
  obtain ⟨hc, hf⟩ := bcell hb5; have hz5 := hb5.size; (try simp only [World.size_alloc, World.size_setCell, size_setRow] at hz5 hc hf); clear hf
  have p5a : w5.cell? ⟨w.heap.size, 0, none⟩ = some (.bool a) := (hc _ _ (by omega)).trans (by first | (go_simp; done) | ((repeat rw [World.cell?_alloc_lt _ _ _ (by (try simp only [World.size_alloc]); omega)]); first | assumption | (go_simp; done))); have p5b : w5.cell? ⟨w.heap.size, 1, none⟩ = some (.int .i64 m) := (hc _ _ (by omega)).trans (by first | (go_simp; done) | ((repeat rw [World.cell?_alloc_lt _ _ _ (by (try simp only [World.size_alloc]); omega)]); first | assumption | (go_simp; done))); have p5c : w5.cell? ⟨w.heap.size, 2, none⟩ = some (.int .i64 s) := (hc _ _ (by omega)).trans (by first | (go_simp; done) | ((repeat rw [World.cell?_alloc_lt _ _ _ (by (try simp only [World.size_alloc]); omega)]); first | assumption | (go_simp; done)))
  have q5a : w5.cell? ⟨w1.heap.size, 0, none⟩ = some (.bool (smpA a m s)) := (hc _ _ (by omega)).trans (by first | (go_simp; done) | ((repeat rw [World.cell?_alloc_lt _ _ _ (by (try simp only [World.size_alloc]); omega)]); first | assumption | (go_simp; done))); have q5b : w5.cell? ⟨w1.heap.size, 1, none⟩ = some (.int .i64 (smpM a m s n)) := (hc _ _ (by omega)).trans (by first | (go_simp; done) | ((repeat rw [World.cell?_alloc_lt _ _ _ (by (try simp only [World.size_alloc]); omega)]); first | assumption | (go_simp; done))); have q5c : w5.cell? ⟨w1.heap.size, 2, none⟩ = some (.int .i64 (smpS a m s n)) := (hc _ _ (by omega)).trans (by first | (go_simp; done) | ((repeat rw [World.cell?_alloc_lt _ _ _ (by (try simp only [World.size_alloc]); omega)]); first | assumption | (go_simp; done)))
  have r5a : w5.cell? ⟨w2.heap.size, 0, none⟩ = some (.bool (smpA a m s)) := (hc _ _ (by omega)).trans (by first | (go_simp; done) | ((repeat rw [World.cell?_alloc_lt _ _ _ (by (try simp only [World.size_alloc]); omega)]); first | assumption | (go_simp; done))); have r5b : w5.cell? ⟨w2.heap.size, 1, none⟩ = some (.int .i64 (smpM a m s n)) := (hc _ _ (by omega)).trans (by first | (go_simp; done) | ((repeat rw [World.cell?_alloc_lt _ _ _ (by (try simp only [World.size_alloc]); omega)]); first | assumption | (go_simp; done))); have r5c : w5.cell? ⟨w2.heap.size, 2, none⟩ = some (.int .i64 (smpS a m s n)) := (hc _ _ (by omega)).trans (by first | (go_simp; done) | ((repeat rw [World.cell?_alloc_lt _ _ _ (by (try simp only [World.size_alloc]); omega)]); first | assumption | (go_simp; done)))
  clear hc
  go_wp2_with fail
  refine (rpace_any _ _ _ _).mono ?_
  rintro e w6 ⟨rfl, hb6⟩
  obtain ⟨hc, hf⟩ := bcell hb6; have hz6 := hb6.size; (try simp only [World.size_alloc, World.size_setCell, size_setRow] at hz6 hc hf); clear hf
  have p6a : w6.cell? ⟨w.heap.size, 0, none⟩ = some (.bool a) := (hc _ _ (by omega)).trans (by first | (go_simp; done) | ((repeat rw [World.cell?_alloc_lt _ _ _ (by (try simp only [World.size_alloc]); omega)]); first | assumption | (go_simp; done))); have p6b : w6.cell? ⟨w.heap.size, 1, none⟩ = some (.int .i64 m) := (hc _ _ (by omega)).trans (by first | (go_simp; done) | ((repeat rw [World.cell?_alloc_lt _ _ _ (by (try simp only [World.size_alloc]); omega)]); first | assumption | (go_simp; done))); have p6c : w6.cell? ⟨w.heap.size, 2, none⟩ = some (.int .i64 s) := (hc _ _ (by omega)).trans (by first | (go_simp; done) | ((repeat rw [World.cell?_alloc_lt _ _ _ (by (try simp only [World.size_alloc]); omega)]); first | assumption | (go_simp; done)))
  have q6a : w6.cell? ⟨w1.heap.size, 0, none⟩ = some (.bool (smpA a m s)) := (hc _ _ (by omega)).trans (by first | (go_simp; done) | ((repeat rw [World.cell?_alloc_lt _ _ _ (by (try simp only [World.size_alloc]); omega)]); first | assumption | (go_simp; done))); have q6b : w6.cell? ⟨w1.heap.size, 1, none⟩ = some (.int .i64 (smpM a m s n)) := (hc _ _ (by omega)).trans (by first | (go_simp; done) | ((repeat rw [World.cell?_alloc_lt _ _ _ (by (try simp only [World.size_alloc]); omega)]); first | assumption | (go_simp; done))); have q6c : w6.cell? ⟨w1.heap.size, 2, none⟩ = some (.int .i64 (smpS a m s n)) := (hc _ _ (by omega)).trans (by first | (go_simp; done) | ((repeat rw [World.cell?_alloc_lt _ _ _ (by (try simp only [World.size_alloc]); omega)]); first | assumption | (go_simp; done)))
  have r6a : w6.cell? ⟨w2.heap.size, 0, none⟩ = some (.bool (smpA a m s)) := (hc _ _ (by omega)).trans (by first | (go_simp; done) | ((repeat rw [World.cell?_alloc_lt _ _ _ (by (try simp only [World.size_alloc]); omega)]); first | assumption | (go_simp; done))); have r6b : w6.cell? ⟨w2.heap.size, 1, none⟩ = some (.int .i64 (smpM a m s n)) := (hc _ _ (by omega)).trans (by first | (go_simp; done) | ((repeat rw [World.cell?_alloc_lt _ _ _ (by (try simp only [World.size_alloc]); omega)]); first | assumption | (go_simp; done))); have r6c : w6.cell? ⟨w2.heap.size, 2, none⟩ = some (.int .i64 (smpS a m s n)) := (hc _ _ (by omega)).trans (by first | (go_simp; done) | ((repeat rw [World.cell?_alloc_lt _ _ _ (by (try simp only [World.size_alloc]); omega)]); first | assumption | (go_simp; done)))
  clear hc
  go_wp2_with fail
  have F0 := Below.refl w6.heap.size w6
  refine wp_region_text (fun W => Below w6.heap.size w6 W) (by kernel_rfl) (by kernel_rfl) (bl_drew F0) ?_
  (apply SeqL.read; (focus (first | rfl | (go_simp; done) | (simp [Region.wanted, yielded]; done))); (focus (intro W hF; have hc := (bcell hF).1; have x0 := (hc _ _ (by omega)).trans q6a; have x1 := (hc _ _ (by omega)).trans q6b; have x2 := (hc _ _ (by omega)).trans q6c; clear hc; go_simp; with_reducible rfl)); go_simp)
  (apply SeqL.read; (focus (first | rfl | (go_simp; done) | (simp [Region.wanted, yielded]; done))); (focus (intro W hF; have hc := (bcell hF).1; have x0 := (hc _ _ (by omega)).trans r6a; have x1 := (hc _ _ (by omega)).trans r6b; have x2 := (hc _ _ (by omega)).trans r6c; clear hc; go_simp; with_reducible rfl)); go_simp)
  repeat (apply SeqL.pure; (focus (first | rfl | (go_simp; done) | (simp [Region.wanted, yielded]; done))); (focus (intro w; go_simp; with_reducible rfl)); go_simp)
  (apply SeqL.read; (focus (first | rfl | (go_simp; done) | (simp [Region.wanted, yielded]; done))); (focus (intro W hF; have hc := (bcell hF).1; have x0 := (hc _ _ (by omega)).trans p6a; have x1 := (hc _ _ (by omega)).trans p6b; have x2 := (hc _ _ (by omega)).trans p6c; clear hc; go_simp; with_reducible rfl)); go_simp)
  refine SeqL.call (.bool (mayB a m s)) 16 #[.agg #[.bool a, .int .i64 m, .int .i64 s]] ?_ (fun w => by kernel_rfl) (fun W hW => (may_any a m s W).mono fun e w' h => ⟨h.1, bl_then hW hW.size h.2⟩) ?_
  · (first | rfl | (go_simp; done) | (simp [Region.wanted, yielded]; done))
  go_simp
  (apply SeqL.read; (focus (first | rfl | (go_simp; done) | (simp [Region.wanted, yielded]; done))); (focus (intro W hF; have hc := (bcell hF).1; have x0 := (hc _ _ (by omega)).trans p6a; have x1 := (hc _ _ (by omega)).trans p6b; have x2 := (hc _ _ (by omega)).trans p6c; clear hc; go_simp; with_reducible rfl)); go_simp)
  refine SeqL.call (.bool (mayB a m s)) 17 #[.agg #[.bool a, .int .i64 m, .int .i64 s]] ?_ (fun w => by kernel_rfl) (fun W hW => (rmay_any a m s W).mono fun e w' h => ⟨h.1, bl_then hW hW.size h.2⟩) ?_
  · (first | rfl | (go_simp; done) | (simp [Region.wanted, yielded]; done))
  go_simp
  repeat (apply SeqL.pure; (focus (first | rfl | (go_simp; done) | (simp [Region.wanted, yielded]; done))); (focus (intro w; go_simp; with_reducible rfl)); go_simp)
  refine SeqL.call (.int .u16 ((n - t) % 65536)) 11 #[.int .u16 n, .int .u16 t] ?_ (fun w => by kernel_rfl) (fun W hW => (since_any n t W hn ht).mono fun e w' h => ⟨h.1, h.2 ▸ hW⟩) ?_
  · (first | rfl | (go_simp; done) | (simp [Region.wanted, yielded]; done))
  go_simp
  repeat (apply SeqL.pure; (focus (first | rfl | (go_simp; done) | (simp [Region.wanted, yielded]; done))); (focus (intro w; go_simp; with_reducible rfl)); go_simp)
  refine SeqL.call (.int .u16 ((n - t) % 65536)) 18 #[.int .u16 n, .int .u16 t] ?_ (fun w => by kernel_rfl) (fun W hW => (rsince_any n t W hn ht).mono fun e w' h => ⟨h.1, h.2 ▸ hW⟩) ?_
  · (first | rfl | (go_simp; done) | (simp [Region.wanted, yielded]; done))
  go_simp
  repeat (apply SeqL.pure; (focus (first | rfl | (go_simp; done) | (simp [Region.wanted, yielded]; done))); (focus (intro w; go_simp; with_reducible rfl)); go_simp)
  refine SeqL.call (.bool true) 10 #[] ?_ (fun w => by kernel_rfl) (fun W hW => (anchored_any W).mono fun e w' h => ⟨h.1, bl_then hW hW.size h.2⟩) ?_
  · (first | rfl | (go_simp; done) | (simp [Region.wanted, yielded]; done))
  go_simp
  repeat (apply SeqL.pure; (focus (first | rfl | (go_simp; done) | (simp [Region.wanted, yielded]; done))); (focus (intro w; go_simp; with_reducible rfl)); go_simp)
  refine SeqL.done fun w7 hb7 => ?_
  go_wp2
  go_ret
  exact ⟨rfl, by (repeat' (first | (with_reducible exact Below.refl _ _) | (with_reducible assumption) | (with_reducible refine Below.alloc ?_ ?_ _) | (with_reducible refine below_setRow ?_ ?_ _) | (with_reducible refine bl_drew ?_) | (with_reducible refine bl_drewN ?_ _) | (with_reducible refine Below.setCell ?_ ?_ _) | (with_reducible refine bl_then ?_ ?_ hb) | (with_reducible refine bl_then ?_ ?_ hb1) | (with_reducible refine bl_then ?_ ?_ hb2) | (with_reducible refine bl_then ?_ ?_ hb3) | (with_reducible refine bl_then ?_ ?_ hb4) | (with_reducible refine bl_then ?_ ?_ hb5) | (with_reducible refine bl_then ?_ ?_ hb6) | (with_reducible refine bl_then ?_ ?_ hb7) | (with_reducible refine bl_then ?_ ?_ hb8) | (with_reducible exact Nat.le_refl _) | omega | (simp only [World.size_alloc, World.size_setCell, World.size_drew, size_setRow]; omega) | (simp; omega) | (simp; done)))⟩
end Go.Proofs.Ytifophgaokoojaa
