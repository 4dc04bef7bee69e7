/- What is proved: what the functions of package clock and of its reference do when they are called; no condition beyond those typed. -/
import Derived.Test.YtifophgaokoojaaProg
import Derived.Test.YtifophgaokoojaaBase
import Derived.Laws.StructEq
set_option linter.unusedSimpArgs false
set_option linter.unusedVariables false
namespace Go.Proofs.Ytifophgaokoojaa
open Go.RowKit
set_option maxRecDepth 100000
set_option maxHeartbeats 1000000
theorem eqRtt (w : World) (x0 y0 : Bool) (x1 y1 : Int) (x2 y2 : Int) :
    (binOp .eql 25 (.agg #[.bool x0, .int .i64 x1, .int .i64 x2]) (.agg #[.bool y0, .int .i64 y1, .int .i64 y2])).run Try.prog w = .ok (.bool (x0 == y0 && (x1 == y1 && (x2 == y2)))) w := by
  go_simp
  by_cases h0 : x0 = y0
  · by_cases h1 : x1 = y1
    · by_cases h2 : x2 = y2
      · simp [h0, h1, h2]
      · simp [h0, h1, h2]
    · simp [h0, h1]
  · simp [h0]

/-- Which estimates may be. -/
def mayB (a : Bool) (m s : Int) : Bool := if a then decide (0 ≤ m) && decide (m ≤ 524280) && decide (0 ≤ s) && decide (s ≤ 262140) else m == 0 && s == 0
theorem may_any (a : Bool) (m s : Int) (w : World) : Calls Try.prog 16 #[.agg #[.bool a, .int .i64 m, .int .i64 s]] w fun e w' => e = .returned (.bool (mayB a m s)) ∧ Below w.heap.size w w' := by
  have hq := eqRtt
  cases a
  · go_enter Try.func16, Try.ntmps16
    go_wp2
    go_ret
    refine ⟨ret_bool (by rw [Bool.eq_iff_iff]; simp [mayB]; try omega), ?_⟩
    (repeat' (first | (with_reducible exact Below.refl _ _) | (with_reducible assumption) | (with_reducible refine Below.alloc ?_ ?_ _) | (with_reducible refine below_setRow ?_ ?_ _) | (with_reducible refine bl_drew ?_) | (with_reducible refine bl_drewN ?_ _) | (with_reducible refine Below.setCell ?_ ?_ _) | (with_reducible refine bl_then ?_ ?_ hb) | (with_reducible refine bl_then ?_ ?_ hb1) | (with_reducible refine bl_then ?_ ?_ hb2) | (with_reducible refine bl_then ?_ ?_ hb3) | (with_reducible refine bl_then ?_ ?_ hb4) | (with_reducible refine bl_then ?_ ?_ hb5) | (with_reducible refine bl_then ?_ ?_ hb6) | (with_reducible refine bl_then ?_ ?_ hb7) | (with_reducible refine bl_then ?_ ?_ hb8) | (with_reducible exact Nat.le_refl _) | omega | (simp only [World.size_alloc, World.size_setCell, World.size_drew, size_setRow]; omega) | (simp; omega) | (simp; done)))
  · by_cases h0 : 0 ≤ m <;> by_cases h1 : m ≤ 524280 <;> by_cases h2 : 0 ≤ s
    all_goals (try (exfalso; omega))
    all_goals
      go_enter Try.func16, Try.ntmps16
      go_wp2
      go_ret
      refine ⟨ret_bool (by rw [Bool.eq_iff_iff]; simp [mayB]; try omega), ?_⟩
      (repeat' (first | (with_reducible exact Below.refl _ _) | (with_reducible assumption) | (with_reducible refine Below.alloc ?_ ?_ _) | (with_reducible refine below_setRow ?_ ?_ _) | (with_reducible refine bl_drew ?_) | (with_reducible refine bl_drewN ?_ _) | (with_reducible refine Below.setCell ?_ ?_ _) | (with_reducible refine bl_then ?_ ?_ hb) | (with_reducible refine bl_then ?_ ?_ hb1) | (with_reducible refine bl_then ?_ ?_ hb2) | (with_reducible refine bl_then ?_ ?_ hb3) | (with_reducible refine bl_then ?_ ?_ hb4) | (with_reducible refine bl_then ?_ ?_ hb5) | (with_reducible refine bl_then ?_ ?_ hb6) | (with_reducible refine bl_then ?_ ?_ hb7) | (with_reducible refine bl_then ?_ ?_ hb8) | (with_reducible exact Nat.le_refl _) | omega | (simp only [World.size_alloc, World.size_setCell, World.size_drew, size_setRow]; omega) | (simp; omega) | (simp; done)))
theorem rmay_any (a : Bool) (m s : Int) (w : World) : Calls Try.prog 17 #[.agg #[.bool a, .int .i64 m, .int .i64 s]] w fun e w' => e = .returned (.bool (mayB a m s)) ∧ Below w.heap.size w w' := by
  have hq := eqRtt
  by_cases h0 : m < 0 <;> by_cases h1 : 524280 < m <;> by_cases h2 : s < 0 <;> by_cases h3 : 262140 < s
  all_goals (try (exfalso; omega))
  all_goals
    cases a
    all_goals
      go_enter Try.func17, Try.ntmps17
      go_wp2
      all_goals
        go_ret
        refine ⟨ret_bool (by rw [Bool.eq_iff_iff]; simp [mayB]; try omega), ?_⟩
        (repeat' (first | (with_reducible exact Below.refl _ _) | (with_reducible assumption) | (with_reducible refine Below.alloc ?_ ?_ _) | (with_reducible refine below_setRow ?_ ?_ _) | (with_reducible refine bl_drew ?_) | (with_reducible refine bl_drewN ?_ _) | (with_reducible refine Below.setCell ?_ ?_ _) | (with_reducible refine bl_then ?_ ?_ hb) | (with_reducible refine bl_then ?_ ?_ hb1) | (with_reducible refine bl_then ?_ ?_ hb2) | (with_reducible refine bl_then ?_ ?_ hb3) | (with_reducible refine bl_then ?_ ?_ hb4) | (with_reducible refine bl_then ?_ ?_ hb5) | (with_reducible refine bl_then ?_ ?_ hb6) | (with_reducible refine bl_then ?_ ?_ hb7) | (with_reducible refine bl_then ?_ ?_ hb8) | (with_reducible exact Nat.le_refl _) | omega | (simp only [World.size_alloc, World.size_setCell, World.size_drew, size_setRow]; omega) | (simp; omega) | (simp; done)))

/-- One sample more. -/
def smpA (a : Bool) (m s : Int) : Bool := mayB a m s
def smpM (a : Bool) (m s n : Int) : Int := if mayB a m s then (if a then m + (n - m / 8) else 8 * n) else 0
def smpS (a : Bool) (m s n : Int) : Int := if mayB a m s then (if a then s + (max (n - m / 8) (-(n - m / 8)) - s / 4) else 2 * n) else 0
def errA (a : Bool) (m s : Int) : Int := if mayB a m s then 0 else 2
theorem may_true {a : Bool} {m s : Int} (h : mayB a m s = true) : 0 ≤ m ∧ m ≤ 524280 ∧ 0 ≤ s ∧ s ≤ 262140 ∧ (a = false → m = 0 ∧ s = 0) := by
  cases a <;> simp [mayB] at h <;> simp <;> omega
theorem sample_any (a : Bool) (m s n : Int) (w : World) (hn : 0 ≤ n ∧ n ≤ 65535) : Calls Try.prog 8 #[.agg #[.bool a, .int .i64 m, .int .i64 s], .int .u16 n] w fun e w' =>
    e = .returned (.tuple #[.agg #[.bool (smpA a m s), .int .i64 (smpM a m s n), .int .i64 (smpS a m s n)], .int .i64 (errA a m s)]) ∧ Below w.heap.size w w' := by
  obtain ⟨hn0, hn1⟩ := hn
  rcases hm : mayB a m s with _ | _
  · go_enter Try.func8, Try.ntmps8
    go_wp2_with fail; refine (may_any _ _ _ _).mono ?_; rintro e w1 ⟨rfl, hb⟩; obtain ⟨hc, hf⟩ := bcell hb; have hz := hb.size; simp only [World.size_alloc] at hz hc hf; have c0 : w1.cell? ⟨w.heap.size, 0, none⟩ = some (.bool a) := (hc _ _ (by omega)).trans (by go_simp); have c1 : w1.cell? ⟨w.heap.size, 1, none⟩ = some (.int .i64 m) := (hc _ _ (by omega)).trans (by go_simp); have c2 : w1.cell? ⟨w.heap.size, 2, none⟩ = some (.int .i64 s) := (hc _ _ (by omega)).trans (by go_simp); have c3 : w1.cell? ⟨w.heap.size + 1, 0, none⟩ = some (.bool false) := (hc _ _ (by omega)).trans (by go_simp); have c4 : w1.cell? ⟨w.heap.size + 1, 1, none⟩ = some (.int .i64 0) := (hc _ _ (by omega)).trans (by go_simp); have c5 : w1.cell? ⟨w.heap.size + 1, 2, none⟩ = some (.int .i64 0) := (hc _ _ (by omega)).trans (by go_simp); have f0 : w1.frozen? ⟨w.heap.size, 0, none⟩ = false := (hf _ _ (by omega)).trans (by go_simp); have f1 : w1.frozen? ⟨w.heap.size, 1, none⟩ = false := (hf _ _ (by omega)).trans (by go_simp); have f2 : w1.frozen? ⟨w.heap.size, 2, none⟩ = false := (hf _ _ (by omega)).trans (by go_simp); have f3 : w1.frozen? ⟨w.heap.size + 1, 0, none⟩ = false := (hf _ _ (by omega)).trans (by go_simp); have f4 : w1.frozen? ⟨w.heap.size + 1, 1, none⟩ = false := (hf _ _ (by omega)).trans (by go_simp); have f5 : w1.frozen? ⟨w.heap.size + 1, 2, none⟩ = false := (hf _ _ (by omega)).trans (by go_simp); clear hc hf; go_wp2_with fail
    refine bodyPost_ret (v := .tuple #[.agg #[.bool (smpA a m s), .int .i64 (smpM a m s n), .int .i64 (smpS a m s n)], .int .i64 (errA a m s)]) ?_ rfl ⟨rfl, ?_⟩
    · simp [smpA, smpM, smpS, errA, results, Try.results8, go_sem, c0, c1, c2, c3, c4, c5, hm]
    · (repeat' (first | (with_reducible exact Below.refl _ _) | (with_reducible assumption) | (with_reducible refine Below.alloc ?_ ?_ _) | (with_reducible refine below_setRow ?_ ?_ _) | (with_reducible refine bl_drew ?_) | (with_reducible refine bl_drewN ?_ _) | (with_reducible refine Below.setCell ?_ ?_ _) | (with_reducible refine bl_then ?_ ?_ hb) | (with_reducible refine bl_then ?_ ?_ hb1) | (with_reducible refine bl_then ?_ ?_ hb2) | (with_reducible refine bl_then ?_ ?_ hb3) | (with_reducible refine bl_then ?_ ?_ hb4) | (with_reducible refine bl_then ?_ ?_ hb5) | (with_reducible refine bl_then ?_ ?_ hb6) | (with_reducible refine bl_then ?_ ?_ hb7) | (with_reducible refine bl_then ?_ ?_ hb8) | (with_reducible exact Nat.le_refl _) | omega | (simp only [World.size_alloc, World.size_setCell, World.size_drew, size_setRow]; omega) | (simp; omega) | (simp; done)))
  · obtain ⟨m0, m1, s0, s1, hA⟩ := may_true hm
    have HA := Lib.hid hA
    clear hA
    cases a
    · go_enter Try.func8, Try.ntmps8
      go_wp2_with fail; refine (may_any _ _ _ _).mono ?_; rintro e w1 ⟨rfl, hb⟩; obtain ⟨hc, hf⟩ := bcell hb; have hz := hb.size; simp only [World.size_alloc] at hz hc hf; have c0 : w1.cell? ⟨w.heap.size, 0, none⟩ = some (.bool false) := (hc _ _ (by omega)).trans (by go_simp); have c1 : w1.cell? ⟨w.heap.size, 1, none⟩ = some (.int .i64 m) := (hc _ _ (by omega)).trans (by go_simp); have c2 : w1.cell? ⟨w.heap.size, 2, none⟩ = some (.int .i64 s) := (hc _ _ (by omega)).trans (by go_simp); have c3 : w1.cell? ⟨w.heap.size + 1, 0, none⟩ = some (.bool false) := (hc _ _ (by omega)).trans (by go_simp); have c4 : w1.cell? ⟨w.heap.size + 1, 1, none⟩ = some (.int .i64 0) := (hc _ _ (by omega)).trans (by go_simp); have c5 : w1.cell? ⟨w.heap.size + 1, 2, none⟩ = some (.int .i64 0) := (hc _ _ (by omega)).trans (by go_simp); have f0 : w1.frozen? ⟨w.heap.size, 0, none⟩ = false := (hf _ _ (by omega)).trans (by go_simp); have f1 : w1.frozen? ⟨w.heap.size, 1, none⟩ = false := (hf _ _ (by omega)).trans (by go_simp); have f2 : w1.frozen? ⟨w.heap.size, 2, none⟩ = false := (hf _ _ (by omega)).trans (by go_simp); have f3 : w1.frozen? ⟨w.heap.size + 1, 0, none⟩ = false := (hf _ _ (by omega)).trans (by go_simp); have f4 : w1.frozen? ⟨w.heap.size + 1, 1, none⟩ = false := (hf _ _ (by omega)).trans (by go_simp); have f5 : w1.frozen? ⟨w.heap.size + 1, 2, none⟩ = false := (hf _ _ (by omega)).trans (by go_simp); clear hc hf; go_wp2_with fail
      refine bodyPost_ret (v := .tuple #[.agg #[.bool (smpA false m s), .int .i64 (smpM false m s n), .int .i64 (smpS false m s n)], .int .i64 (errA false m s)]) ?_ rfl ⟨rfl, ?_⟩
      · simp [smpA, smpM, smpS, errA, results, Try.results8, go_sem, c0, c1, c2, c3, c4, c5, hm]
        omega
      · (repeat' (first | (with_reducible exact Below.refl _ _) | (with_reducible assumption) | (with_reducible refine Below.alloc ?_ ?_ _) | (with_reducible refine below_setRow ?_ ?_ _) | (with_reducible refine bl_drew ?_) | (with_reducible refine bl_drewN ?_ _) | (with_reducible refine Below.setCell ?_ ?_ _) | (with_reducible refine bl_then ?_ ?_ hb) | (with_reducible refine bl_then ?_ ?_ hb1) | (with_reducible refine bl_then ?_ ?_ hb2) | (with_reducible refine bl_then ?_ ?_ hb3) | (with_reducible refine bl_then ?_ ?_ hb4) | (with_reducible refine bl_then ?_ ?_ hb5) | (with_reducible refine bl_then ?_ ?_ hb6) | (with_reducible refine bl_then ?_ ?_ hb7) | (with_reducible refine bl_then ?_ ?_ hb8) | (with_reducible exact Nat.le_refl _) | omega | (simp only [World.size_alloc, World.size_setCell, World.size_drew, size_setRow]; omega) | (simp; omega) | (simp; done)))
    · go_enter Try.func8, Try.ntmps8
      go_wp2_with fail; refine (may_any _ _ _ _).mono ?_; rintro e w1 ⟨rfl, hb⟩; obtain ⟨hc, hf⟩ := bcell hb; have hz := hb.size; simp only [World.size_alloc] at hz hc hf; have c0 : w1.cell? ⟨w.heap.size, 0, none⟩ = some (.bool true) := (hc _ _ (by omega)).trans (by go_simp); have c1 : w1.cell? ⟨w.heap.size, 1, none⟩ = some (.int .i64 m) := (hc _ _ (by omega)).trans (by go_simp); have c2 : w1.cell? ⟨w.heap.size, 2, none⟩ = some (.int .i64 s) := (hc _ _ (by omega)).trans (by go_simp); have c3 : w1.cell? ⟨w.heap.size + 1, 0, none⟩ = some (.bool false) := (hc _ _ (by omega)).trans (by go_simp); have c4 : w1.cell? ⟨w.heap.size + 1, 1, none⟩ = some (.int .i64 0) := (hc _ _ (by omega)).trans (by go_simp); have c5 : w1.cell? ⟨w.heap.size + 1, 2, none⟩ = some (.int .i64 0) := (hc _ _ (by omega)).trans (by go_simp); have f0 : w1.frozen? ⟨w.heap.size, 0, none⟩ = false := (hf _ _ (by omega)).trans (by go_simp); have f1 : w1.frozen? ⟨w.heap.size, 1, none⟩ = false := (hf _ _ (by omega)).trans (by go_simp); have f2 : w1.frozen? ⟨w.heap.size, 2, none⟩ = false := (hf _ _ (by omega)).trans (by go_simp); have f3 : w1.frozen? ⟨w.heap.size + 1, 0, none⟩ = false := (hf _ _ (by omega)).trans (by go_simp); have f4 : w1.frozen? ⟨w.heap.size + 1, 1, none⟩ = false := (hf _ _ (by omega)).trans (by go_simp); have f5 : w1.frozen? ⟨w.heap.size + 1, 2, none⟩ = false := (hf _ _ (by omega)).trans (by go_simp); clear hc hf; go_wp2_with fail
      all_goals
       refine bodyPost_ret (v := .tuple #[.agg #[.bool (smpA true m s), .int .i64 (smpM true m s n), .int .i64 (smpS true m s n)], .int .i64 (errA true m s)]) ?_ rfl ⟨rfl, ?_⟩
       · simp [smpA, smpM, smpS, errA, results, Try.results8, go_sem, c0, c1, c2, c3, c4, c5, hm]
         first | done | omega
       · (repeat' (first | (with_reducible exact Below.refl _ _) | (with_reducible assumption) | (with_reducible refine Below.alloc ?_ ?_ _) | (with_reducible refine below_setRow ?_ ?_ _) | (with_reducible refine bl_drew ?_) | (with_reducible refine bl_drewN ?_ _) | (with_reducible refine Below.setCell ?_ ?_ _) | (with_reducible refine bl_then ?_ ?_ hb) | (with_reducible refine bl_then ?_ ?_ hb1) | (with_reducible refine bl_then ?_ ?_ hb2) | (with_reducible refine bl_then ?_ ?_ hb3) | (with_reducible refine bl_then ?_ ?_ hb4) | (with_reducible refine bl_then ?_ ?_ hb5) | (with_reducible refine bl_then ?_ ?_ hb6) | (with_reducible refine bl_then ?_ ?_ hb7) | (with_reducible refine bl_then ?_ ?_ hb8) | (with_reducible exact Nat.le_refl _) | omega | (simp only [World.size_alloc, World.size_setCell, World.size_drew, size_setRow]; omega) | (simp; omega) | (simp; done)))

/-- 'max, min' as the walk has them. -/
theorem start_any (w : World) : Calls Try.prog 7 #[] w fun e w' => e = .returned (.agg #[.bool false, .int .i64 0, .int .i64 0]) ∧ Below w.heap.size w w' := by
  go_enter Try.func7, Try.ntmps7
  go_wp2_with fail
  refine bodyPost_ret (v := .agg #[.bool false, .int .i64 0, .int .i64 0]) ?_ rfl ⟨rfl, ?_⟩
  · simp [results, Try.results7, go_sem]
  · (repeat' (first | (with_reducible exact Below.refl _ _) | (with_reducible assumption) | (with_reducible refine Below.alloc ?_ ?_ _) | (with_reducible refine below_setRow ?_ ?_ _) | (with_reducible refine bl_drew ?_) | (with_reducible refine bl_drewN ?_ _) | (with_reducible refine Below.setCell ?_ ?_ _) | (with_reducible refine bl_then ?_ ?_ hb) | (with_reducible refine bl_then ?_ ?_ hb1) | (with_reducible refine bl_then ?_ ?_ hb2) | (with_reducible refine bl_then ?_ ?_ hb3) | (with_reducible refine bl_then ?_ ?_ hb4) | (with_reducible refine bl_then ?_ ?_ hb5) | (with_reducible refine bl_then ?_ ?_ hb6) | (with_reducible refine bl_then ?_ ?_ hb7) | (with_reducible refine bl_then ?_ ?_ hb8) | (with_reducible exact Nat.le_refl _) | omega | (simp only [World.size_alloc, World.size_setCell, World.size_drew, size_setRow]; omega) | (simp; omega) | (simp; done)))
theorem since_any (a b : Int) (w : World) (ha : 0 ≤ a ∧ a ≤ 65535) (hb : 0 ≤ b ∧ b ≤ 65535) : Calls Try.prog 11 #[.int .u16 a, .int .u16 b] w fun e w' => e = .returned (.int .u16 ((a - b) % 65536)) ∧ w = w' := by
  obtain ⟨a0, a1⟩ := ha
  obtain ⟨b0, b1⟩ := hb
  go_enter Try.func11, Try.ntmps11
  go_wp2_with fail
  go_ret
  refine ⟨ret_int ?_, rfl⟩
  simp [IntKind.wrap, IntKind.bits, IntKind.signed]
theorem rsince_any (a b : Int) (w : World) (ha : 0 ≤ a ∧ a ≤ 65535) (hb : 0 ≤ b ∧ b ≤ 65535) : Calls Try.prog 18 #[.int .u16 a, .int .u16 b] w fun e w' => e = .returned (.int .u16 ((a - b) % 65536)) ∧ w = w' := by
  obtain ⟨a0, a1⟩ := ha
  obtain ⟨b0, b1⟩ := hb
  by_cases h : a - b < 0
  all_goals
    go_enter Try.func18, Try.ntmps18
    go_wp2
    go_ret
    refine ⟨ret_int ?_, rfl⟩
    first | omega | (simp [IntKind.wrap, IntKind.bits, IntKind.signed]; omega)
/-- A time within bounds. -/
def timeP (a : Bool) (m s n lo hi : Int) : Int := if mayB a m s then (if a then max lo (min n hi) else hi) else 0
theorem bounded_any (a : Bool) (m s n lo hi : Int) (w : World) : Calls Try.prog 19 #[.agg #[.bool a, .int .i64 m, .int .i64 s], .int .i64 n, .int .i64 lo, .int .i64 hi] w fun e w' =>
    e = .returned (.tuple #[.int .i64 (timeP a m s n lo hi), .int .i64 (errA a m s)]) ∧ Below w.heap.size w w' := by
  rcases hm : mayB a m s with _ | _
  all_goals
    cases a
    all_goals
      go_enter Try.func19, Try.ntmps19
      go_wp2_with fail
      refine (may_any _ _ _ _).mono ?_
      rintro e w1 ⟨rfl, hb⟩
      obtain ⟨hc, hf⟩ := bcell hb
      have hz := hb.size
      simp only [World.size_alloc] at hz hc hf
      go_wp2_with fail
      all_goals
        go_ret2
        refine ⟨?_, ?_⟩
        · simp [timeP, errA, hm]
          try omega
        · (repeat' (first | (with_reducible exact Below.refl _ _) | (with_reducible assumption) | (with_reducible refine Below.alloc ?_ ?_ _) | (with_reducible refine below_setRow ?_ ?_ _) | (with_reducible refine bl_drew ?_) | (with_reducible refine bl_drewN ?_ _) | (with_reducible refine Below.setCell ?_ ?_ _) | (with_reducible refine bl_then ?_ ?_ hb) | (with_reducible refine bl_then ?_ ?_ hb1) | (with_reducible refine bl_then ?_ ?_ hb2) | (with_reducible refine bl_then ?_ ?_ hb3) | (with_reducible refine bl_then ?_ ?_ hb4) | (with_reducible refine bl_then ?_ ?_ hb5) | (with_reducible refine bl_then ?_ ?_ hb6) | (with_reducible refine bl_then ?_ ?_ hb7) | (with_reducible refine bl_then ?_ ?_ hb8) | (with_reducible exact Nat.le_refl _) | omega | (simp only [World.size_alloc, World.size_setCell, World.size_drew, size_setRow]; omega) | (simp; omega) | (simp; done)))
theorem may_true' {a : Bool} {m s : Int} (h : mayB a m s = true) : 0 ≤ m ∧ m ≤ 524280 ∧ 0 ≤ s ∧ s ≤ 262140 := by
  obtain ⟨h0, h1, h2, h3, _⟩ := may_true h
  exact ⟨h0, h1, h2, h3⟩
def tmo (a : Bool) (m s : Int) : Int := timeP a m s (m / 8 + s) 50 1000
def pce (a : Bool) (m s : Int) : Int := timeP a m s (m / 8 / 2) 20 250
theorem timeP_congr {a : Bool} {m s n n' lo hi : Int} (h : mayB a m s = true → n = n') : timeP a m s n lo hi = timeP a m s n' lo hi := by
  unfold timeP
  split
  · rw [h (by assumption)]
  · rfl
theorem timeout_any (a : Bool) (m s : Int) (w : World) : Calls Try.prog 9 #[.agg #[.bool a, .int .i64 m, .int .i64 s]] w fun e w' =>
    e = .returned (.tuple #[.int .i64 (tmo a m s), .int .i64 (errA a m s)]) ∧ Below w.heap.size w w' := by
  go_enter Try.func9, Try.ntmps9
  go_wp2_with fail
  refine (bounded_any _ _ _ _ _ _ _).mono ?_
  rintro e w1 ⟨rfl, hb⟩
  go_wp2_with fail
  go_ret2
  refine ⟨?_, ?_⟩
  · have e : timeP a m s (wrap64 (m / 8 + s)) 50 1000 = tmo a m s := timeP_congr fun h => by
      have := may_true' h
      unfold wrap64
      omega
    show Ending.returned (.tuple #[.int .i64 (timeP a m s (wrap64 (m / 8 + s)) 50 1000), .int .i64 (errA a m s)]) = _
    rw [e]
  · (repeat' (first | (with_reducible exact Below.refl _ _) | (with_reducible assumption) | (with_reducible refine Below.alloc ?_ ?_ _) | (with_reducible refine below_setRow ?_ ?_ _) | (with_reducible refine bl_drew ?_) | (with_reducible refine bl_drewN ?_ _) | (with_reducible refine Below.setCell ?_ ?_ _) | (with_reducible refine bl_then ?_ ?_ hb) | (with_reducible refine bl_then ?_ ?_ hb1) | (with_reducible refine bl_then ?_ ?_ hb2) | (with_reducible refine bl_then ?_ ?_ hb3) | (with_reducible refine bl_then ?_ ?_ hb4) | (with_reducible refine bl_then ?_ ?_ hb5) | (with_reducible refine bl_then ?_ ?_ hb6) | (with_reducible refine bl_then ?_ ?_ hb7) | (with_reducible refine bl_then ?_ ?_ hb8) | (with_reducible exact Nat.le_refl _) | omega | (simp only [World.size_alloc, World.size_setCell, World.size_drew, size_setRow]; omega) | (simp; omega) | (simp; done)))
theorem pace_any (a : Bool) (m s : Int) (w : World) : Calls Try.prog 14 #[.agg #[.bool a, .int .i64 m, .int .i64 s]] w fun e w' =>
    e = .returned (.tuple #[.int .i64 (pce a m s), .int .i64 (errA a m s)]) ∧ Below w.heap.size w w' := by
  go_enter Try.func14, Try.ntmps14
  go_wp2_with fail
  refine (bounded_any _ _ _ _ _ _ _).mono ?_
  rintro e w1 ⟨rfl, hb⟩
  go_wp2_with fail
  go_ret2
  exact ⟨rfl, by (repeat' (first | (with_reducible exact Below.refl _ _) | (with_reducible assumption) | (with_reducible refine Below.alloc ?_ ?_ _) | (with_reducible refine below_setRow ?_ ?_ _) | (with_reducible refine bl_drew ?_) | (with_reducible refine bl_drewN ?_ _) | (with_reducible refine Below.setCell ?_ ?_ _) | (with_reducible refine bl_then ?_ ?_ hb) | (with_reducible refine bl_then ?_ ?_ hb1) | (with_reducible refine bl_then ?_ ?_ hb2) | (with_reducible refine bl_then ?_ ?_ hb3) | (with_reducible refine bl_then ?_ ?_ hb4) | (with_reducible refine bl_then ?_ ?_ hb5) | (with_reducible refine bl_then ?_ ?_ hb6) | (with_reducible refine bl_then ?_ ?_ hb7) | (with_reducible refine bl_then ?_ ?_ hb8) | (with_reducible exact Nat.le_refl _) | omega | (simp only [World.size_alloc, World.size_setCell, World.size_drew, size_setRow]; omega) | (simp; omega) | (simp; done)))⟩
theorem within_any (n lo hi : Int) (w : World) : Calls Try.prog 20 #[.int .i64 n, .int .i64 lo, .int .i64 hi] w fun e w' => e = .returned (.int .i64 (max lo (min n hi))) ∧ w = w' := by
  go_enter Try.func20, Try.ntmps20
  go_wp2_with fail
  all_goals
    go_ret
    refine ⟨ret_int ?_, rfl⟩
    first | rfl | omega | (simp; omega)
theorem rtimeout_any (a : Bool) (m s : Int) (w : World) : Calls Try.prog 13 #[.agg #[.bool a, .int .i64 m, .int .i64 s]] w fun e w' =>
    e = .returned (.tuple #[.int .i64 (tmo a m s), .int .i64 (errA a m s)]) ∧ Below w.heap.size w w' := by
  rcases hm : mayB a m s with _ | _
  · go_enter Try.func13, Try.ntmps13
    go_wp2_with fail; refine (rmay_any _ _ _ _).mono ?_; rintro e w1 ⟨rfl, hb⟩; obtain ⟨hc, hf⟩ := bcell hb; have hz := hb.size; simp only [World.size_alloc] at hz hc hf
    go_wp2_with fail
    go_ret2
    exact ⟨by simp [tmo, timeP, errA, hm], by (repeat' (first | (with_reducible exact Below.refl _ _) | (with_reducible assumption) | (with_reducible refine Below.alloc ?_ ?_ _) | (with_reducible refine below_setRow ?_ ?_ _) | (with_reducible refine bl_drew ?_) | (with_reducible refine bl_drewN ?_ _) | (with_reducible refine Below.setCell ?_ ?_ _) | (with_reducible refine bl_then ?_ ?_ hb) | (with_reducible refine bl_then ?_ ?_ hb1) | (with_reducible refine bl_then ?_ ?_ hb2) | (with_reducible refine bl_then ?_ ?_ hb3) | (with_reducible refine bl_then ?_ ?_ hb4) | (with_reducible refine bl_then ?_ ?_ hb5) | (with_reducible refine bl_then ?_ ?_ hb6) | (with_reducible refine bl_then ?_ ?_ hb7) | (with_reducible refine bl_then ?_ ?_ hb8) | (with_reducible exact Nat.le_refl _) | omega | (simp only [World.size_alloc, World.size_setCell, World.size_drew, size_setRow]; omega) | (simp; omega) | (simp; done)))⟩
  · obtain ⟨m0, m1, s0, s1⟩ := may_true' hm
    cases a
    · go_enter Try.func13, Try.ntmps13
      go_wp2_with fail; refine (rmay_any _ _ _ _).mono ?_; rintro e w1 ⟨rfl, hb⟩; obtain ⟨hc, hf⟩ := bcell hb; have hz := hb.size; simp only [World.size_alloc] at hz hc hf
      go_wp2_with fail
      go_ret2
      exact ⟨by simp [tmo, timeP, errA, hm], by (repeat' (first | (with_reducible exact Below.refl _ _) | (with_reducible assumption) | (with_reducible refine Below.alloc ?_ ?_ _) | (with_reducible refine below_setRow ?_ ?_ _) | (with_reducible refine bl_drew ?_) | (with_reducible refine bl_drewN ?_ _) | (with_reducible refine Below.setCell ?_ ?_ _) | (with_reducible refine bl_then ?_ ?_ hb) | (with_reducible refine bl_then ?_ ?_ hb1) | (with_reducible refine bl_then ?_ ?_ hb2) | (with_reducible refine bl_then ?_ ?_ hb3) | (with_reducible refine bl_then ?_ ?_ hb4) | (with_reducible refine bl_then ?_ ?_ hb5) | (with_reducible refine bl_then ?_ ?_ hb6) | (with_reducible refine bl_then ?_ ?_ hb7) | (with_reducible refine bl_then ?_ ?_ hb8) | (with_reducible exact Nat.le_refl _) | omega | (simp only [World.size_alloc, World.size_setCell, World.size_drew, size_setRow]; omega) | (simp; omega) | (simp; done)))⟩
    · go_enter Try.func13, Try.ntmps13
      go_wp2_with fail; refine (rmay_any _ _ _ _).mono ?_; rintro e w1 ⟨rfl, hb⟩; obtain ⟨hc, hf⟩ := bcell hb; have hz := hb.size; simp only [World.size_alloc] at hz hc hf
      go_wp2_with fail
      refine (within_any _ _ _ _).mono ?_
      rintro e w2 ⟨rfl, rfl⟩
      go_wp2_with fail
      go_ret2
      exact ⟨by simp [tmo, timeP, errA, hm], by (repeat' (first | (with_reducible exact Below.refl _ _) | (with_reducible assumption) | (with_reducible refine Below.alloc ?_ ?_ _) | (with_reducible refine below_setRow ?_ ?_ _) | (with_reducible refine bl_drew ?_) | (with_reducible refine bl_drewN ?_ _) | (with_reducible refine Below.setCell ?_ ?_ _) | (with_reducible refine bl_then ?_ ?_ hb) | (with_reducible refine bl_then ?_ ?_ hb1) | (with_reducible refine bl_then ?_ ?_ hb2) | (with_reducible refine bl_then ?_ ?_ hb3) | (with_reducible refine bl_then ?_ ?_ hb4) | (with_reducible refine bl_then ?_ ?_ hb5) | (with_reducible refine bl_then ?_ ?_ hb6) | (with_reducible refine bl_then ?_ ?_ hb7) | (with_reducible refine bl_then ?_ ?_ hb8) | (with_reducible exact Nat.le_refl _) | omega | (simp only [World.size_alloc, World.size_setCell, World.size_drew, size_setRow]; omega) | (simp; omega) | (simp; done)))⟩
theorem rpace_any (a : Bool) (m s : Int) (w : World) : Calls Try.prog 15 #[.agg #[.bool a, .int .i64 m, .int .i64 s]] w fun e w' =>
    e = .returned (.tuple #[.int .i64 (pce a m s), .int .i64 (errA a m s)]) ∧ Below w.heap.size w w' := by
  rcases hm : mayB a m s with _ | _
  · go_enter Try.func15, Try.ntmps15
    go_wp2_with fail; refine (rmay_any _ _ _ _).mono ?_; rintro e w1 ⟨rfl, hb⟩; obtain ⟨hc, hf⟩ := bcell hb; have hz := hb.size; simp only [World.size_alloc] at hz hc hf
    go_wp2_with fail
    go_ret2
    exact ⟨by simp [pce, timeP, errA, hm], by (repeat' (first | (with_reducible exact Below.refl _ _) | (with_reducible assumption) | (with_reducible refine Below.alloc ?_ ?_ _) | (with_reducible refine below_setRow ?_ ?_ _) | (with_reducible refine bl_drew ?_) | (with_reducible refine bl_drewN ?_ _) | (with_reducible refine Below.setCell ?_ ?_ _) | (with_reducible refine bl_then ?_ ?_ hb) | (with_reducible refine bl_then ?_ ?_ hb1) | (with_reducible refine bl_then ?_ ?_ hb2) | (with_reducible refine bl_then ?_ ?_ hb3) | (with_reducible refine bl_then ?_ ?_ hb4) | (with_reducible refine bl_then ?_ ?_ hb5) | (with_reducible refine bl_then ?_ ?_ hb6) | (with_reducible refine bl_then ?_ ?_ hb7) | (with_reducible refine bl_then ?_ ?_ hb8) | (with_reducible exact Nat.le_refl _) | omega | (simp only [World.size_alloc, World.size_setCell, World.size_drew, size_setRow]; omega) | (simp; omega) | (simp; done)))⟩
  · obtain ⟨m0, m1, s0, s1⟩ := may_true' hm
    cases a
    · go_enter Try.func15, Try.ntmps15
      go_wp2_with fail; refine (rmay_any _ _ _ _).mono ?_; rintro e w1 ⟨rfl, hb⟩; obtain ⟨hc, hf⟩ := bcell hb; have hz := hb.size; simp only [World.size_alloc] at hz hc hf
      go_wp2_with fail
      go_ret2
      exact ⟨by simp [pce, timeP, errA, hm], by (repeat' (first | (with_reducible exact Below.refl _ _) | (with_reducible assumption) | (with_reducible refine Below.alloc ?_ ?_ _) | (with_reducible refine below_setRow ?_ ?_ _) | (with_reducible refine bl_drew ?_) | (with_reducible refine bl_drewN ?_ _) | (with_reducible refine Below.setCell ?_ ?_ _) | (with_reducible refine bl_then ?_ ?_ hb) | (with_reducible refine bl_then ?_ ?_ hb1) | (with_reducible refine bl_then ?_ ?_ hb2) | (with_reducible refine bl_then ?_ ?_ hb3) | (with_reducible refine bl_then ?_ ?_ hb4) | (with_reducible refine bl_then ?_ ?_ hb5) | (with_reducible refine bl_then ?_ ?_ hb6) | (with_reducible refine bl_then ?_ ?_ hb7) | (with_reducible refine bl_then ?_ ?_ hb8) | (with_reducible exact Nat.le_refl _) | omega | (simp only [World.size_alloc, World.size_setCell, World.size_drew, size_setRow]; omega) | (simp; omega) | (simp; done)))⟩
    · go_enter Try.func15, Try.ntmps15
      go_wp2_with fail; refine (rmay_any _ _ _ _).mono ?_; rintro e w1 ⟨rfl, hb⟩; obtain ⟨hc, hf⟩ := bcell hb; have hz := hb.size; simp only [World.size_alloc] at hz hc hf
      go_wp2_with fail
      refine (within_any _ _ _ _).mono ?_
      rintro e w2 ⟨rfl, rfl⟩
      go_wp2_with fail
      go_ret2
      exact ⟨by simp [pce, timeP, errA, hm], by (repeat' (first | (with_reducible exact Below.refl _ _) | (with_reducible assumption) | (with_reducible refine Below.alloc ?_ ?_ _) | (with_reducible refine below_setRow ?_ ?_ _) | (with_reducible refine bl_drew ?_) | (with_reducible refine bl_drewN ?_ _) | (with_reducible refine Below.setCell ?_ ?_ _) | (with_reducible refine bl_then ?_ ?_ hb) | (with_reducible refine bl_then ?_ ?_ hb1) | (with_reducible refine bl_then ?_ ?_ hb2) | (with_reducible refine bl_then ?_ ?_ hb3) | (with_reducible refine bl_then ?_ ?_ hb4) | (with_reducible refine bl_then ?_ ?_ hb5) | (with_reducible refine bl_then ?_ ?_ hb6) | (with_reducible refine bl_then ?_ ?_ hb7) | (with_reducible refine bl_then ?_ ?_ hb8) | (with_reducible exact Nat.le_refl _) | omega | (simp only [World.size_alloc, World.size_setCell, World.size_drew, size_setRow]; omega) | (simp; omega) | (simp; done)))⟩
theorem rsample_any (a : Bool) (m s n : Int) (w : World) (hn : 0 ≤ n ∧ n ≤ 65535) : Calls Try.prog 12 #[.agg #[.bool a, .int .i64 m, .int .i64 s], .int .u16 n] w fun e w' =>
    e = .returned (.tuple #[.agg #[.bool (smpA a m s), .int .i64 (smpM a m s n), .int .i64 (smpS a m s n)], .int .i64 (errA a m s)]) ∧ Below w.heap.size w w' := by
  obtain ⟨hn0, hn1⟩ := hn
  rcases hm : mayB a m s with _ | _
  · go_enter Try.func12, Try.ntmps12
    go_wp2_with fail; refine (rmay_any _ _ _ _).mono ?_; rintro e w1 ⟨rfl, hb⟩; obtain ⟨hc, hf⟩ := bcell hb; have hz := hb.size; simp only [World.size_alloc] at hz hc hf; have c0 : w1.cell? ⟨w.heap.size, 0, none⟩ = some (.bool a) := (hc _ _ (by omega)).trans (by go_simp); have c1 : w1.cell? ⟨w.heap.size, 1, none⟩ = some (.int .i64 m) := (hc _ _ (by omega)).trans (by go_simp); have c2 : w1.cell? ⟨w.heap.size, 2, none⟩ = some (.int .i64 s) := (hc _ _ (by omega)).trans (by go_simp); have c3 : w1.cell? ⟨w.heap.size + 1, 0, none⟩ = some (.bool false) := (hc _ _ (by omega)).trans (by go_simp); have c4 : w1.cell? ⟨w.heap.size + 1, 1, none⟩ = some (.int .i64 0) := (hc _ _ (by omega)).trans (by go_simp); have c5 : w1.cell? ⟨w.heap.size + 1, 2, none⟩ = some (.int .i64 0) := (hc _ _ (by omega)).trans (by go_simp); have f0 : w1.frozen? ⟨w.heap.size, 0, none⟩ = false := (hf _ _ (by omega)).trans (by go_simp); have f1 : w1.frozen? ⟨w.heap.size, 1, none⟩ = false := (hf _ _ (by omega)).trans (by go_simp); have f2 : w1.frozen? ⟨w.heap.size, 2, none⟩ = false := (hf _ _ (by omega)).trans (by go_simp); have f3 : w1.frozen? ⟨w.heap.size + 1, 0, none⟩ = false := (hf _ _ (by omega)).trans (by go_simp); have f4 : w1.frozen? ⟨w.heap.size + 1, 1, none⟩ = false := (hf _ _ (by omega)).trans (by go_simp); have f5 : w1.frozen? ⟨w.heap.size + 1, 2, none⟩ = false := (hf _ _ (by omega)).trans (by go_simp); clear hc hf; go_wp2_with fail
    refine bodyPost_ret (v := .tuple #[.agg #[.bool (smpA a m s), .int .i64 (smpM a m s n), .int .i64 (smpS a m s n)], .int .i64 (errA a m s)]) ?_ rfl ⟨rfl, ?_⟩
    · simp [smpA, smpM, smpS, errA, results, Try.results12, go_sem, c0, c1, c2, c3, c4, c5, hm]
    · (repeat' (first | (with_reducible exact Below.refl _ _) | (with_reducible assumption) | (with_reducible refine Below.alloc ?_ ?_ _) | (with_reducible refine below_setRow ?_ ?_ _) | (with_reducible refine bl_drew ?_) | (with_reducible refine bl_drewN ?_ _) | (with_reducible refine Below.setCell ?_ ?_ _) | (with_reducible refine bl_then ?_ ?_ hb) | (with_reducible refine bl_then ?_ ?_ hb1) | (with_reducible refine bl_then ?_ ?_ hb2) | (with_reducible refine bl_then ?_ ?_ hb3) | (with_reducible refine bl_then ?_ ?_ hb4) | (with_reducible refine bl_then ?_ ?_ hb5) | (with_reducible refine bl_then ?_ ?_ hb6) | (with_reducible refine bl_then ?_ ?_ hb7) | (with_reducible refine bl_then ?_ ?_ hb8) | (with_reducible exact Nat.le_refl _) | omega | (simp only [World.size_alloc, World.size_setCell, World.size_drew, size_setRow]; omega) | (simp; omega) | (simp; done)))
  · obtain ⟨m0, m1, s0, s1, hA⟩ := may_true hm
    have HA := Lib.hid hA
    clear hA
    cases a
    · go_enter Try.func12, Try.ntmps12
      go_wp2_with fail; refine (rmay_any _ _ _ _).mono ?_; rintro e w1 ⟨rfl, hb⟩; obtain ⟨hc, hf⟩ := bcell hb; have hz := hb.size; simp only [World.size_alloc] at hz hc hf; have c0 : w1.cell? ⟨w.heap.size, 0, none⟩ = some (.bool false) := (hc _ _ (by omega)).trans (by go_simp); have c1 : w1.cell? ⟨w.heap.size, 1, none⟩ = some (.int .i64 m) := (hc _ _ (by omega)).trans (by go_simp); have c2 : w1.cell? ⟨w.heap.size, 2, none⟩ = some (.int .i64 s) := (hc _ _ (by omega)).trans (by go_simp); have c3 : w1.cell? ⟨w.heap.size + 1, 0, none⟩ = some (.bool false) := (hc _ _ (by omega)).trans (by go_simp); have c4 : w1.cell? ⟨w.heap.size + 1, 1, none⟩ = some (.int .i64 0) := (hc _ _ (by omega)).trans (by go_simp); have c5 : w1.cell? ⟨w.heap.size + 1, 2, none⟩ = some (.int .i64 0) := (hc _ _ (by omega)).trans (by go_simp); have f0 : w1.frozen? ⟨w.heap.size, 0, none⟩ = false := (hf _ _ (by omega)).trans (by go_simp); have f1 : w1.frozen? ⟨w.heap.size, 1, none⟩ = false := (hf _ _ (by omega)).trans (by go_simp); have f2 : w1.frozen? ⟨w.heap.size, 2, none⟩ = false := (hf _ _ (by omega)).trans (by go_simp); have f3 : w1.frozen? ⟨w.heap.size + 1, 0, none⟩ = false := (hf _ _ (by omega)).trans (by go_simp); have f4 : w1.frozen? ⟨w.heap.size + 1, 1, none⟩ = false := (hf _ _ (by omega)).trans (by go_simp); have f5 : w1.frozen? ⟨w.heap.size + 1, 2, none⟩ = false := (hf _ _ (by omega)).trans (by go_simp); clear hc hf; go_wp2_with fail
      refine bodyPost_ret (v := .tuple #[.agg #[.bool (smpA false m s), .int .i64 (smpM false m s n), .int .i64 (smpS false m s n)], .int .i64 (errA false m s)]) ?_ rfl ⟨rfl, ?_⟩
      · simp [smpA, smpM, smpS, errA, results, Try.results12, go_sem, c0, c1, c2, c3, c4, c5, hm]
      · (repeat' (first | (with_reducible exact Below.refl _ _) | (with_reducible assumption) | (with_reducible refine Below.alloc ?_ ?_ _) | (with_reducible refine below_setRow ?_ ?_ _) | (with_reducible refine bl_drew ?_) | (with_reducible refine bl_drewN ?_ _) | (with_reducible refine Below.setCell ?_ ?_ _) | (with_reducible refine bl_then ?_ ?_ hb) | (with_reducible refine bl_then ?_ ?_ hb1) | (with_reducible refine bl_then ?_ ?_ hb2) | (with_reducible refine bl_then ?_ ?_ hb3) | (with_reducible refine bl_then ?_ ?_ hb4) | (with_reducible refine bl_then ?_ ?_ hb5) | (with_reducible refine bl_then ?_ ?_ hb6) | (with_reducible refine bl_then ?_ ?_ hb7) | (with_reducible refine bl_then ?_ ?_ hb8) | (with_reducible exact Nat.le_refl _) | omega | (simp only [World.size_alloc, World.size_setCell, World.size_drew, size_setRow]; omega) | (simp; omega) | (simp; done)))
    · by_cases hd : n - m / 8 < 0
      all_goals
       go_enter Try.func12, Try.ntmps12
       go_wp2_with fail; refine (rmay_any _ _ _ _).mono ?_; rintro e w1 ⟨rfl, hb⟩; obtain ⟨hc, hf⟩ := bcell hb; have hz := hb.size; simp only [World.size_alloc] at hz hc hf; have c0 : w1.cell? ⟨w.heap.size, 0, none⟩ = some (.bool true) := (hc _ _ (by omega)).trans (by go_simp); have c1 : w1.cell? ⟨w.heap.size, 1, none⟩ = some (.int .i64 m) := (hc _ _ (by omega)).trans (by go_simp); have c2 : w1.cell? ⟨w.heap.size, 2, none⟩ = some (.int .i64 s) := (hc _ _ (by omega)).trans (by go_simp); have c3 : w1.cell? ⟨w.heap.size + 1, 0, none⟩ = some (.bool false) := (hc _ _ (by omega)).trans (by go_simp); have c4 : w1.cell? ⟨w.heap.size + 1, 1, none⟩ = some (.int .i64 0) := (hc _ _ (by omega)).trans (by go_simp); have c5 : w1.cell? ⟨w.heap.size + 1, 2, none⟩ = some (.int .i64 0) := (hc _ _ (by omega)).trans (by go_simp); have f0 : w1.frozen? ⟨w.heap.size, 0, none⟩ = false := (hf _ _ (by omega)).trans (by go_simp); have f1 : w1.frozen? ⟨w.heap.size, 1, none⟩ = false := (hf _ _ (by omega)).trans (by go_simp); have f2 : w1.frozen? ⟨w.heap.size, 2, none⟩ = false := (hf _ _ (by omega)).trans (by go_simp); have f3 : w1.frozen? ⟨w.heap.size + 1, 0, none⟩ = false := (hf _ _ (by omega)).trans (by go_simp); have f4 : w1.frozen? ⟨w.heap.size + 1, 1, none⟩ = false := (hf _ _ (by omega)).trans (by go_simp); have f5 : w1.frozen? ⟨w.heap.size + 1, 2, none⟩ = false := (hf _ _ (by omega)).trans (by go_simp); clear hc hf; go_wp2_with fail
       refine bodyPost_ret (v := .tuple #[.agg #[.bool (smpA true m s), .int .i64 (smpM true m s n), .int .i64 (smpS true m s n)], .int .i64 (errA true m s)]) ?_ rfl ⟨rfl, ?_⟩
       · simp [smpA, smpM, smpS, errA, results, Try.results12, go_sem, c0, c1, c2, c3, c4, c5, hm]
         try omega
       · (repeat' (first | (with_reducible exact Below.refl _ _) | (with_reducible assumption) | (with_reducible refine Below.alloc ?_ ?_ _) | (with_reducible refine below_setRow ?_ ?_ _) | (with_reducible refine bl_drew ?_) | (with_reducible refine bl_drewN ?_ _) | (with_reducible refine Below.setCell ?_ ?_ _) | (with_reducible refine bl_then ?_ ?_ hb) | (with_reducible refine bl_then ?_ ?_ hb1) | (with_reducible refine bl_then ?_ ?_ hb2) | (with_reducible refine bl_then ?_ ?_ hb3) | (with_reducible refine bl_then ?_ ?_ hb4) | (with_reducible refine bl_then ?_ ?_ hb5) | (with_reducible refine bl_then ?_ ?_ hb6) | (with_reducible refine bl_then ?_ ?_ hb7) | (with_reducible refine bl_then ?_ ?_ hb8) | (with_reducible exact Nat.le_refl _) | omega | (simp only [World.size_alloc, World.size_setCell, World.size_drew, size_setRow]; omega) | (simp; omega) | (simp; done)))
end Go.Proofs.Ytifophgaokoojaa
