/- What is proved: what the law ClockStays comes to when it is called; no condition beyond those typed. -/
import Derived.Test.YtifophgaokoojaaClockLaws
import Derived.Test.YtifophgaokoojaaOrderNew
set_option linter.unusedSimpArgs false
set_option linter.unusedVariables false
namespace Go.Proofs.Ytifophgaokoojaa
open Go.RowKit
set_option maxRecDepth 100000
set_option maxHeartbeats 4000000
theorem smp_may {a : Bool} {m s x : Int} (h : mayB a m s = true) (hx : 0 ≤ x ∧ x ≤ 65535) : smpA a m s = true ∧ errA a m s = 0 ∧ mayB true (smpM a m s x) (smpS a m s x) = true := by
  obtain ⟨h0, h1, h2, h3⟩ := may_true' h
  refine ⟨h, by unfold errA; rw [if_pos h], ?_⟩
  unfold smpM smpS
  rw [if_pos h, if_pos h]
  cases a <;> simp [mayB] <;> omega
theorem time_range {m s : Int} (h : mayB true m s = true) : 50 ≤ tmo true m s ∧ tmo true m s ≤ 1000 ∧ 20 ≤ pce true m s ∧ pce true m s ≤ 250 ∧ errA true m s = 0 := by
  have e1 : tmo true m s = max 50 (min (m / 8 + s) 1000) := by unfold tmo timeP; rw [if_pos h, if_pos rfl]
  have e2 : pce true m s = max 20 (min (m / 8 / 2) 250) := by unfold pce timeP; rw [if_pos h, if_pos rfl]
  have e3 : errA true m s = 0 := by unfold errA; rw [if_pos h]
  omega
theorem stays_any (A : Option Addr) (n cap : Nat) (xs : List Int) (w : World) (h : RdI w .u16 A n xs) (hn : n ≤ 140737488355328) (hx : ∀ i, 0 ≤ xs.getD i 0 ∧ xs.getD i 0 ≤ 65535) :
    Calls Try.prog 6 #[.slice A n cap] w fun e w' => e = .returned (.bool true) ∧ Below w.heap.size w w' := by
  have H := Lib.hid h
  have HX := Lib.hid hx
  have HL := Lib.hid h.len
  clear h hx
  go_enter Try.func6, Try.ntmps6
  go_wp2_with fail
  refine (start_any _).mono ?_
  rintro e w1 ⟨rfl, hb1⟩
  have hz1 := hb1.size
  have HB1 := Lib.hid hb1
  clear hb1
  go_wp2_with fail
  go_loopw [4] (fun i wr => ∃ (k : Nat) (a : Bool) (m s : Int), k ≤ n ∧ i = .int .i64 k ∧ mayB a m s = true ∧ Hid (Below w.heap.size w wr) ∧ wr.heap[w1.heap.size]? = some (.cells #[.bool a, .int .i64 m, .int .i64 s] 25 (0, 0))) (fun i _ => n - (intOf i).toNat)
  case atStart => exact ⟨0, false, 0, 0, Nat.zero_le _, rfl, by decide, (HB1.out).alloc hz1 _, by rw [heap_alloc_if, if_pos rfl]⟩
  case round =>
    obtain ⟨k, a, m, s, hk, rfl, hm, HB, hg⟩ := hrel
    by_cases hlt : k < n
    · obtain ⟨b, off, rfl, hc⟩ := H.out.2 (by omega)
      have hcell : wr.cell? ⟨b, off + k, none⟩ = some (.int .u16 (xs.getD k 0)) := ((bcell HB.out).1 b _ (H.out.lt_ (by omega) rfl)).trans (hc k hlt)
      have hxk := HX.out k
      have hbl : b < w.heap.size := H.out.lt_ (by omega) rfl
      clear hc
      generalize hx : xs.getD k 0 = x at *
      clear hx
      obtain ⟨hx0, hx1⟩ := hxk
      have c0 : wr.cell? ⟨w1.heap.size, 0, none⟩ = some (.bool a) := (cell_of_row wr _ 0 _ _ (0, 0) hg).trans rfl
      have c1 : wr.cell? ⟨w1.heap.size, 1, none⟩ = some (.int .i64 m) := (cell_of_row wr _ 1 _ _ (0, 0) hg).trans rfl
      have c2 : wr.cell? ⟨w1.heap.size, 2, none⟩ = some (.int .i64 s) := (cell_of_row wr _ 2 _ _ (0, 0) hg).trans rfl
      have HG := Lib.hid hg
      have HM := Lib.hid hm
      have hw1 : w1.heap.size < wr.heap.size := block_lt_of_cell c0
      obtain ⟨m', s', q3, HC⟩ : ∃ m' s', mayB true m' s' = true ∧ Hid (∀ W, Calls Try.prog 8 #[.agg #[.bool a, .int .i64 m, .int .i64 s], .int .u16 x] W fun e w' => e = .returned (.tuple #[.agg #[.bool true, .int .i64 m', .int .i64 s'], .int .i64 0]) ∧ Below W.heap.size W w') := by
        obtain ⟨q1, q2, q3⟩ := smp_may (x := x) hm ⟨hx0, hx1⟩
        refine ⟨_, _, q3, fun W => ?_⟩
        have h := sample_any a m s x W ⟨hx0, hx1⟩
        rw [q1, q2] at h
        exact h
      obtain ⟨t1, t2, t3, t4, t5⟩ := time_range q3
      have HQ := Lib.hid q3
      clear hg hm q3
      have hk0 : (0 : Int) ≤ (k : Int) := by omega
      have hk1 : (k : Int) < (n : Int) := by omega
      go_wp2_with fail
      apply wp_region_made (hm := by kernel_rfl)
      rotate_left 2
      · (apply SeqN.read; (focus (first | rfl | (go_simp; done) | (simp [Region.wanted, yielded]; done))); (focus (intro W hF; have hc := (bcell hF).1; have x0 := (hc _ _ (by omega)).trans c0; have x1 := (hc _ _ (by omega)).trans c1; have x2 := (hc _ _ (by omega)).trans c2; clear hc; go_simp; with_reducible rfl)); go_simp)
        (apply SeqN.pure; (focus (first | rfl | (go_simp; done) | (simp [Region.wanted, yielded]; done))); (focus (intro w; go_simp; with_reducible rfl)); go_simp)
        (apply SeqN.pure; (focus (first | rfl | (go_simp; done) | (simp [Region.wanted, yielded]; done))); (focus (intro w; go_simp; with_reducible rfl)); go_simp)
        (apply SeqN.pure; (focus (first | rfl | (go_simp; done) | (simp [Region.wanted, yielded]; done))); (focus (intro w; go_simp; with_reducible rfl)); go_simp)
        (apply SeqN.read; (focus (first | rfl | (go_simp; done) | (simp [Region.wanted, yielded]; done))); (focus (intro W hF; have hc := (bcell hF).1; have x0 := (hc _ _ (by omega)).trans hcell; clear hc; go_simp; with_reducible rfl)); go_simp)
        (apply SeqN.call (v := .tuple #[.agg #[.bool true, .int .i64 m', .int .i64 s'], .int .i64 0]) 8 #[.agg #[.bool a, .int .i64 m, .int .i64 s], .int .u16 x]; (focus (first | rfl | (go_simp; done) | (simp [Region.wanted, yielded]; done))); (focus (intro w; kernel_rfl)); (focus (exact fun W hW => (HC.out W).mono fun e w' h => ⟨h.1, bl_then hW hW.size h.2, h.2⟩)); go_simp)
        (apply SeqN.pure; (focus (first | rfl | (go_simp; done) | (simp [Region.wanted, yielded]; done))); (focus (intro w; go_simp; with_reducible rfl)); go_simp)
        (apply SeqN.pure; (focus (first | rfl | (go_simp; done) | (simp [Region.wanted, yielded]; done))); (focus (intro w; go_simp; with_reducible rfl)); go_simp)
        (apply SeqN.pure; (focus (first | rfl | (go_simp; done) | (simp [Region.wanted, yielded]; done))); (focus (intro w; go_simp; with_reducible rfl)); go_simp)
        (apply SeqN.made (ob := .cells #[.bool false, .int .i64 0, .int .i64 0] 25); (focus (first | rfl | (go_simp; done) | (simp [Region.wanted, yielded]; done))); (focus (intro w hF; kernel_rfl)); intro g hg; go_simp)
        (apply SeqN.wrote (t := 9) (ob := .cells #[.bool true, .int .i64 m', .int .i64 s'] 25) g (.cells #[.bool false, .int .i64 0, .int .i64 0] 25); (focus (first | rfl | (go_simp; done) | (simp [Region.wanted, yielded]; done))); (focus rfl); (focus (intro W hF hgW; refine ⟨W.setRow g #[.bool true, .int .i64 m', .int .i64 s'], ?_, only_setRow hgW⟩; exact exec_store rfl rfl rfl (run_store_whole Try.prog 25 25 _ (by kernel_rfl) (by kernel_rfl) W g _ hgW (by kernel_rfl)))); go_simp)
        (apply SeqN.pure; (focus (first | rfl | (go_simp; done) | (simp [Region.wanted, yielded]; done))); (focus (intro w; go_simp; with_reducible rfl)); go_simp)
        apply SeqN.done
        intro W hW hG
        have hg1 : W.heap[g]? = some (.cells #[.bool true, .int .i64 m', .int .i64 s'] 25) := (hG.1 9 g _ rfl).2
        have hg0 : W.heap[w1.heap.size]? = some (.cells #[.bool a, .int .i64 m, .int .i64 s] 25) := (hW.block _ hw1).trans HG.out
        have HBW := Lib.hid (bl_then HB.out HB.out.size hW)
        have hne : ¬ w1.heap.size = g := by omega
        clear hG hW c0 c1 c2 hcell
        have xa : W.cell? ⟨g, 0, none⟩ = some (.bool true) := (cell_of_row W _ 0 _ _ (0, 0) hg1).trans rfl; have xb : W.cell? ⟨g, 1, none⟩ = some (.int .i64 m') := (cell_of_row W _ 1 _ _ (0, 0) hg1).trans rfl; have xc : W.cell? ⟨g, 2, none⟩ = some (.int .i64 s') := (cell_of_row W _ 2 _ _ (0, 0) hg1).trans rfl
        have HG1 := Lib.hid hg1
        have HG0 := Lib.hid hg0
        have zg := lt_of_heap hg1
        have z0 := lt_of_heap hg0
        clear hg1 hg0
        go_wp2_with fail
        refine (timeout_any _ _ _ _).mono ?_
        rw [t5]
        rintro e w2 ⟨rfl, hb2⟩
        have g2 := (hb2.block g zg).trans HG1.out
        have G2 := Lib.hid g2
        have G2' := Lib.hid ((hb2.block w1.heap.size z0).trans HG0.out)
        have B2 := Lib.hid (bl_then HBW.out HBW.out.size hb2)
        have ya : w2.cell? ⟨g, 0, none⟩ = some (.bool true) := (cell_of_row w2 _ 0 _ _ (0, 0) g2).trans rfl; have yb : w2.cell? ⟨g, 1, none⟩ = some (.int .i64 m') := (cell_of_row w2 _ 1 _ _ (0, 0) g2).trans rfl; have yc : w2.cell? ⟨g, 2, none⟩ = some (.int .i64 s') := (cell_of_row w2 _ 2 _ _ (0, 0) g2).trans rfl
        clear g2 hb2
        go_wp2_with fail
        refine (pace_any _ _ _ _).mono ?_
        rw [t5]
        rintro e w3 ⟨rfl, hb3⟩
        have g3 := (hb3.block g (lt_of_heap G2.out)).trans G2.out
        have G3 := Lib.hid g3
        have G3' := Lib.hid ((hb3.block w1.heap.size (lt_of_heap G2'.out)).trans G2'.out)
        have B3 := Lib.hid (bl_then B2.out B2.out.size hb3)
        have za : w3.cell? ⟨g, 0, none⟩ = some (.bool true) := (cell_of_row w3 _ 0 _ _ (0, 0) g3).trans rfl; have zb : w3.cell? ⟨g, 1, none⟩ = some (.int .i64 m') := (cell_of_row w3 _ 1 _ _ (0, 0) g3).trans rfl; have zc : w3.cell? ⟨g, 2, none⟩ = some (.int .i64 s') := (cell_of_row w3 _ 2 _ _ (0, 0) g3).trans rfl
        clear g3 hb3
        generalize tmo true m' s' = T at *
        generalize pce true m' s' = U at *
        have T1 : ¬ T < 50 := by omega
        have T2 : ¬ 1000 < T := by omega
        have U1 : ¬ U < 20 := by omega
        have U2 : ¬ 250 < U := by omega
        go_wp2_with fail
        refine (rmay_any _ _ _ _).mono ?_
        rw [HQ.out]
        rintro e w4 ⟨rfl, hb4⟩
        have g4 := (hb4.block g (lt_of_heap G3.out)).trans G3.out
        have G4 := Lib.hid g4
        have G4' := Lib.hid ((hb4.block w1.heap.size (lt_of_heap G3'.out)).trans G3'.out)
        have B4 := Lib.hid (bl_then B3.out B3.out.size hb4)
        have ua : w4.cell? ⟨g, 0, none⟩ = some (.bool true) := (cell_of_row w4 _ 0 _ _ (0, 0) g4).trans rfl; have ub : w4.cell? ⟨g, 1, none⟩ = some (.int .i64 m') := (cell_of_row w4 _ 1 _ _ (0, 0) g4).trans rfl; have uc : w4.cell? ⟨g, 2, none⟩ = some (.int .i64 s') := (cell_of_row w4 _ 2 _ _ (0, 0) g4).trans rfl
        clear g4 hb4
        go_wp2_with fail
        refine (may_any _ _ _ _).mono ?_
        rw [HQ.out]
        rintro e w5 ⟨rfl, hb5⟩
        have g5 := (hb5.block g (lt_of_heap G4.out)).trans G4.out
        have g5' := (hb5.block w1.heap.size (lt_of_heap G4'.out)).trans G4'.out
        have B5 := Lib.hid (bl_then B4.out B4.out.size hb5)
        have va : w5.cell? ⟨g, 0, none⟩ = some (.bool true) := (cell_of_row w5 _ 0 _ _ (0, 0) g5).trans rfl; have vb : w5.cell? ⟨g, 1, none⟩ = some (.int .i64 m') := (cell_of_row w5 _ 1 _ _ (0, 0) g5).trans rfl; have vc : w5.cell? ⟨g, 2, none⟩ = some (.int .i64 s') := (cell_of_row w5 _ 2 _ _ (0, 0) g5).trans rfl
        have wa : w5.cell? ⟨w1.heap.size, 0, none⟩ = some (.bool a) := (cell_of_row w5 _ 0 _ _ (0, 0) g5').trans rfl; have wb : w5.cell? ⟨w1.heap.size, 1, none⟩ = some (.int .i64 m) := (cell_of_row w5 _ 1 _ _ (0, 0) g5').trans rfl; have wc : w5.cell? ⟨w1.heap.size, 2, none⟩ = some (.int .i64 s) := (cell_of_row w5 _ 2 _ _ (0, 0) g5').trans rfl
        have wd := frozen_of_row w5 w1.heap.size 0 _ _ g5'; have we := frozen_of_row w5 w1.heap.size 1 _ _ g5'; have wf := frozen_of_row w5 w1.heap.size 2 _ _ g5'
        have G5' := Lib.hid g5'
        clear g5 g5' hb5
        go_wp2_with fail
        go_roundw
        case rel =>
          refine ⟨k + 1, true, m', s', by omega, by go_num, HQ.out, ?_, ?_⟩
          · exact ((B5.out.setCell hz1 _).setCell hz1 _).setCell hz1 _
          · exact heap_setCell_same _ _ 2 _ _ _ (heap_setCell_same _ _ 1 _ _ _ (heap_setCell_same _ _ 0 _ _ _ G5'.out))
        case measure => simp [intOf]; omega
      · rfl
      · kernel_rfl
    · clear hg hm
      go_wp2_with fail
      refine (anchored_any _).mono ?_
      rintro e w2 ⟨rfl, hb⟩
      go_wp2_with fail
      go_ret
      exact ⟨rfl, bl_then HB.out HB.out.size hb⟩
end Go.Proofs.Ytifophgaokoojaa
