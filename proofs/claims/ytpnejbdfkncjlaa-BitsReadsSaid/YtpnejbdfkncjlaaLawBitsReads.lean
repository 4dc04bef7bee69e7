/- What is proved: what the law BitsReads answers when it is called, whatever the bytes, places and bits. -/
import Derived.Test.YtpnejbdfkncjlaaPureBitsReads
import Derived.Test.YtpnejbdfkncjlaaBase
import Derived.Laws.StructEq
set_option linter.unusedVariables false
set_option linter.unusedSimpArgs false
namespace Go.Proofs.Ytpnejbdfkncjlaa.PBitsReads
open Go Go.RowKit Go.Proofs.YtpnejbdfkncjlaaW.PrintWords Go.Proofs.YtpnejbdfkncjlaaW.PrintMore Go.Proofs.Ytpnejbdfkncjlaa.BitsNum
set_option maxRecDepth 100000
set_option maxHeartbeats 1000000
theorem eq39 (w : World) (x0 x1 y0 y1 : Int) :
    (binOp .eql 39 (.agg #[.int .u64 x0, .int .i64 x1]) (.agg #[.int .u64 y0, .int .i64 y1])).run Try.prog w = .ok (.bool (x0 == y0 && x1 == y1)) w := by
  go_simp
  by_cases h0 : x0 = y0
  · by_cases h1 : x1 = y1
    · simp [h0, h1]
    · simp [h0, h1]
  · simp [h0]
theorem reads_calls (A : Option Addr) (c len : Nat) (b : List Int) (p q x0 x1 : Int) (w : World) (hr : Kd.C (Kd.int .u8) w A b.length b) (hlen : b.length = len) (hc : len ≤ c) (hu : u8s b) (hl : len ≤ 281474976710656) (hp : -9223372036854775808 ≤ p ∧ p ≤ 9223372036854775807) (hq : -9223372036854775808 ≤ q ∧ q ≤ 9223372036854775807) (hx : wfS ⟨x0, x1⟩) :
    Calls Try.prog 4 #[.slice A len c, .agg #[.int .i64 p, .int .i64 q], .agg #[.int .u64 x0, .int .i64 x1]] w fun e w' => e = .returned (.bool true) ∧ Below w.heap.size w w' := by
  subst hlen
  obtain ⟨k, h1, h2, h3, h4, h5⟩ := all_ev b p q ⟨x0, x1⟩ hu hl hp hq hx
  generalize hrd : rdS b p q = rd2 at h1 h2
  generalize hrv : revS ⟨x0, x1⟩ = rv3 at h3 h4
  obtain ⟨r1, r2⟩ := rd2
  obtain ⟨s1, s2, s3⟩ := rv3
  have heq := eq39
  have HR := Lib.hid hr
  have H1 := Lib.hid h1
  have H2 := Lib.hid h2
  have H3 := Lib.hid h3
  have H4 := Lib.hid h4
  have H5 := Lib.hid h5
  have HC := Lib.hid hc
  clear hr h1 h2 h3 h4 h5 hc hrd hrv hx hp hq hl hu
  go_enter Try.func4, Try.ntmps4
  go_wp2_with fail
  refine (bits_Read.calls k A c b p q r1 r2 _ (Kd.C_below HR.out (by (repeat' (first | (with_reducible exact Below.refl _ _) | (with_reducible assumption) | (with_reducible refine Below.alloc ?_ ?_ _) | (with_reducible refine below_setRow ?_ ?_ _) | (with_reducible refine bl_drew ?_) | (with_reducible refine bl_drewN ?_ _) | (with_reducible refine Below.setCell ?_ ?_ _) | (with_reducible refine bl_then ?_ ?_ hb) | (with_reducible refine bl_then ?_ ?_ hb1) | (with_reducible refine bl_then ?_ ?_ hb2) | (with_reducible refine bl_then ?_ ?_ hb3) | (with_reducible refine bl_then ?_ ?_ hb4) | (with_reducible refine bl_then ?_ ?_ hb5) | (with_reducible refine bl_then ?_ ?_ hb6) | (with_reducible refine bl_then ?_ ?_ hb7) | (with_reducible refine bl_then ?_ ?_ hb8) | (with_reducible exact Nat.le_refl _) | omega | (simp only [World.size_alloc, World.size_setCell, World.size_drew, size_setRow]; omega) | (simp; omega) | (simp; done))))) HC.out H1.out).mono ?_
  rintro e w1 ⟨rfl, hd1⟩
  have hb1 := hd1.below
  clear hd1
  obtain ⟨hc, hf⟩ := bcell hb1; have hz1 := hb1.size; (try simp only [World.size_alloc, World.size_setCell, size_setRow] at hz1 hc hf); clear hf
  have p1a : w1.cell? ⟨w.heap.size, 0, none⟩ = some (.int .i64 p) := (hc _ _ (by omega)).trans (by first | (go_simp; done) | ((repeat rw [World.cell?_alloc_lt _ _ _ (by (try simp only [World.size_alloc]); omega)]); first | assumption | (go_simp; done))); have p1b : w1.cell? ⟨w.heap.size, 1, none⟩ = some (.int .i64 q) := (hc _ _ (by omega)).trans (by first | (go_simp; done) | ((repeat rw [World.cell?_alloc_lt _ _ _ (by (try simp only [World.size_alloc]); omega)]); first | assumption | (go_simp; done)))
  have x1a : w1.cell? ⟨w.heap.size + 1, 0, none⟩ = some (.int .u64 x0) := (hc _ _ (by omega)).trans (by first | (go_simp; done) | ((repeat rw [World.cell?_alloc_lt _ _ _ (by (try simp only [World.size_alloc]); omega)]); first | assumption | (go_simp; done))); have x1b : w1.cell? ⟨w.heap.size + 1, 1, none⟩ = some (.int .i64 x1) := (hc _ _ (by omega)).trans (by first | (go_simp; done) | ((repeat rw [World.cell?_alloc_lt _ _ _ (by (try simp only [World.size_alloc]); omega)]); first | assumption | (go_simp; done)))
  clear hc
  have B1 : Below w.heap.size w w1 := by (repeat' (first | (with_reducible exact Below.refl _ _) | (with_reducible assumption) | (with_reducible refine Below.alloc ?_ ?_ _) | (with_reducible refine below_setRow ?_ ?_ _) | (with_reducible refine bl_drew ?_) | (with_reducible refine bl_drewN ?_ _) | (with_reducible refine Below.setCell ?_ ?_ _) | (with_reducible refine bl_then ?_ ?_ hb) | (with_reducible refine bl_then ?_ ?_ hb1) | (with_reducible refine bl_then ?_ ?_ hb2) | (with_reducible refine bl_then ?_ ?_ hb3) | (with_reducible refine bl_then ?_ ?_ hb4) | (with_reducible refine bl_then ?_ ?_ hb5) | (with_reducible refine bl_then ?_ ?_ hb6) | (with_reducible refine bl_then ?_ ?_ hb7) | (with_reducible refine bl_then ?_ ?_ hb8) | (with_reducible exact Nat.le_refl _) | omega | (simp only [World.size_alloc, World.size_setCell, World.size_drew, size_setRow]; omega) | (simp; omega) | (simp; done)))
  go_wp2_with fail
  refine (wayfarerref03_Read.calls k A c b p q r1 r2 _ (Kd.C_below HR.out B1) HC.out H2.out).mono ?_
  rintro e w2 ⟨rfl, hd2⟩
  have hb2 := hd2.below
  clear hd2
  obtain ⟨hc, hf⟩ := bcell hb2; have hz2 := hb2.size; (try simp only [World.size_alloc, World.size_setCell, size_setRow] at hz2 hc hf); clear hf
  have x2a : w2.cell? ⟨w.heap.size + 1, 0, none⟩ = some (.int .u64 x0) := (hc _ _ (by omega)).trans (by first | (go_simp; done) | ((repeat rw [World.cell?_alloc_lt _ _ _ (by (try simp only [World.size_alloc]); omega)]); first | assumption | (go_simp; done))); have x2b : w2.cell? ⟨w.heap.size + 1, 1, none⟩ = some (.int .i64 x1) := (hc _ _ (by omega)).trans (by first | (go_simp; done) | ((repeat rw [World.cell?_alloc_lt _ _ _ (by (try simp only [World.size_alloc]); omega)]); first | assumption | (go_simp; done)))
  clear hc p1a p1b x1a x1b
  have B2 : Below w.heap.size w w2 := by (repeat' (first | (with_reducible exact Below.refl _ _) | (with_reducible assumption) | (with_reducible refine Below.alloc ?_ ?_ _) | (with_reducible refine below_setRow ?_ ?_ _) | (with_reducible refine bl_drew ?_) | (with_reducible refine bl_drewN ?_ _) | (with_reducible refine Below.setCell ?_ ?_ _) | (with_reducible refine bl_then ?_ ?_ hb) | (with_reducible refine bl_then ?_ ?_ hb1) | (with_reducible refine bl_then ?_ ?_ hb2) | (with_reducible refine bl_then ?_ ?_ hb3) | (with_reducible refine bl_then ?_ ?_ hb4) | (with_reducible refine bl_then ?_ ?_ hb5) | (with_reducible refine bl_then ?_ ?_ hb6) | (with_reducible refine bl_then ?_ ?_ hb7) | (with_reducible refine bl_then ?_ ?_ hb8) | (with_reducible exact Nat.le_refl _) | omega | (simp only [World.size_alloc, World.size_setCell, World.size_drew, size_setRow]; omega) | (simp; omega) | (simp; done)))
  clear hb1 B1
  go_wp2_with fail
  refine (bits_Reverse.calls k x0 x1 s1 s2 s3 _ H3.out).mono ?_
  rintro e w3 ⟨rfl, hb3⟩
  obtain ⟨hc, hf⟩ := bcell hb3; have hz3 := hb3.size; (try simp only [World.size_alloc, World.size_setCell, size_setRow] at hz3 hc hf); clear hf
  have n3 : w.heap.size + 1 < w3.heap.size := by omega
  have x3a : w3.cell? ⟨w.heap.size + 1, 0, none⟩ = some (.int .u64 x0) := (hc _ _ (by omega)).trans (by first | (go_simp; done) | ((repeat rw [World.cell?_alloc_lt _ _ _ (by (try simp only [World.size_alloc]); omega)]); first | assumption | (go_simp; done))); have x3b : w3.cell? ⟨w.heap.size + 1, 1, none⟩ = some (.int .i64 x1) := (hc _ _ (by omega)).trans (by first | (go_simp; done) | ((repeat rw [World.cell?_alloc_lt _ _ _ (by (try simp only [World.size_alloc]); omega)]); first | assumption | (go_simp; done)))
  clear hc x2a x2b
  go_wp2_with fail
  refine (wayfarerref03_Reverse.calls k x0 x1 s1 s2 s3 _ H4.out).mono ?_
  rintro e w4 ⟨rfl, hb4⟩
  obtain ⟨hc, hf⟩ := bcell hb4; have hz4 := hb4.size; (try simp only [World.size_alloc, World.size_setCell, size_setRow] at hz4 hc hf); clear hf
  have n4 : w3.heap.size < w4.heap.size := by omega
  have y4a : w4.cell? ⟨w3.heap.size, 0, none⟩ = some (.int .u64 s1) := (hc _ _ (by omega)).trans (by first | (go_simp; done) | ((repeat rw [World.cell?_alloc_lt _ _ _ (by (try simp only [World.size_alloc]); omega)]); first | assumption | (go_simp; done))); have y4b : w4.cell? ⟨w3.heap.size, 1, none⟩ = some (.int .i64 s2) := (hc _ _ (by omega)).trans (by first | (go_simp; done) | ((repeat rw [World.cell?_alloc_lt _ _ _ (by (try simp only [World.size_alloc]); omega)]); first | assumption | (go_simp; done)))
  clear hc x3a x3b
  go_wp2_with fail
  refine (wayfarerlaw03_anchored.calls k true _ H5.out).mono ?_
  rintro e w5 ⟨rfl, hb5⟩
  go_wp2_with fail
  go_ret
  exact ⟨rfl, by (repeat' (first | (with_reducible exact Below.refl _ _) | (with_reducible assumption) | (with_reducible refine Below.alloc ?_ ?_ _) | (with_reducible refine below_setRow ?_ ?_ _) | (with_reducible refine bl_drew ?_) | (with_reducible refine bl_drewN ?_ _) | (with_reducible refine Below.setCell ?_ ?_ _) | (with_reducible refine bl_then ?_ ?_ hb) | (with_reducible refine bl_then ?_ ?_ hb1) | (with_reducible refine bl_then ?_ ?_ hb2) | (with_reducible refine bl_then ?_ ?_ hb3) | (with_reducible refine bl_then ?_ ?_ hb4) | (with_reducible refine bl_then ?_ ?_ hb5) | (with_reducible refine bl_then ?_ ?_ hb6) | (with_reducible refine bl_then ?_ ?_ hb7) | (with_reducible refine bl_then ?_ ?_ hb8) | (with_reducible exact Nat.le_refl _) | omega | (simp only [World.size_alloc, World.size_setCell, World.size_drew, size_setRow]; omega) | (simp; omega) | (simp; done)))⟩
theorem ofRdI {w : World} {A : Option Addr} {n : Nat} {xs : List Int} (h : RdI w .u8 A n xs) (hn : n ≤ 9223372036854775807) : Kd.C (Kd.int .u8) w A xs.length xs := by
  have hl := h.1
  subst hl
  refine Kd.C_of_reads (enc := Value.int .u8) (d := 0) ⟨rfl, hn, fun h0 => ?_⟩
  obtain ⟨b, off, e, hc⟩ := h.2 h0
  exact ⟨⟨b, off, none⟩, e, fun j hj => by rw [show (⟨b, off, none⟩ : Addr).add j = ⟨b, off + j, none⟩ from by simp [Addr.add]]; exact hc j hj⟩
theorem u8_of {n : Int} (h : (Lit.int .u8 n).wf = true) : 0 ≤ n ∧ n < 256 := by
  have := wf_u8 h
  omega
end Go.Proofs.Ytpnejbdfkncjlaa.PBitsReads
