/- What is proved: laws of the instructions' forms; what Same of events, of both packages, and Lists answer; conditions: those typed. -/
import Derived.Test.YtgkiedbefogklaaWireT
import Derived.StillTailTactics
set_option linter.unusedSimpArgs false
set_option linter.unusedVariables false
namespace Go.Proofs.Ytgkiedbefogklaa
open Go.RowKit
set_option maxRecDepth 100000
set_option maxHeartbeats 8000000
theorem equal_bytes (u v : Value) (xs ys : List Int) (w : World) (h : BB w u xs) (k : BB w v ys) :
    Calls Try.prog 44 #[u, v] w fun e w' => e = .returned (.bool (decide (xs = ys))) ∧ w' = w := by
  have e1 := bytes_str h
  have e2 := bytes_str k
  have e3 := str_inj h.ok k.ok
  have e4 : ((strOfNums xs).toList == (strOfNums ys).toList) = decide (xs = ys) := by
    rw [ByteArray.toList_eq, ByteArray.toList_eq]
    rw [Bool.eq_iff_iff, beq_iff_eq, decide_eq_true_iff, ← e3]
    exact ⟨fun h => by simpa [strOfNums] using h, fun h => by rw [h]⟩
  clear h k
  go_enter Try.func44, Try.ntmps44
  go_wp2_with fail
  go_ret
  exact ⟨rfl, rfl⟩
/-- Are two events the same? -/
def sameE (e f : Event) : Bool := decide (e.kind = f.kind ∧ e.bs = f.bs ∧ e.cols = f.cols ∧ e.rows = f.rows ∧ e.arrow = f.arrow)
theorem sameE_iff {e f : Event} : sameE e f = true ↔ e = f := by
  unfold sameE
  rw [decide_eq_true_iff]
  obtain ⟨a, b, c, d, g⟩ := e
  obtain ⟨a', b', c', d', g'⟩ := f
  simp
theorem rsameE_any (e f : Event) (u v : Value) (w : World) (hu : BB w u e.bs) (hv : BB w v f.bs) :
    Calls Try.prog 26 #[.agg (erow ⟨e, u⟩), .agg (erow ⟨f, v⟩)] w fun r w' => r = .returned (.bool (sameE e f)) ∧ Below w.heap.size w w' := by
  obtain ⟨ek, eb, ec, er, ea⟩ := e
  obtain ⟨fk, fb, fc, fr, fa⟩ := f
  have HSE : Hid (sameE ⟨ek, eb, ec, er, ea⟩ ⟨fk, fb, fc, fr, fa⟩ = decide (ek = fk ∧ eb = fb ∧ ec = fc ∧ er = fr ∧ ea = fa)) := Lib.hid rfl
  obtain ⟨sv, hsv⟩ : ∃ s, sameE ⟨ek, eb, ec, er, ea⟩ ⟨fk, fb, fc, fr, fa⟩ = s := ⟨_, rfl⟩
  rw [hsv] at HSE ⊢
  clear hsv
  unfold erow
  dsimp only at hu hv ⊢
  obtain ⟨A1, n1, c1, rfl⟩ : ∃ A n c, u = .slice A n c := by obtain ⟨_, _, A, c, h, _⟩ := hu; exact ⟨_, _, _, h⟩
  obtain ⟨A2, n2, c2, rfl⟩ : ∃ A n c, v = .slice A n c := by obtain ⟨_, _, A, c, h, _⟩ := hv; exact ⟨_, _, _, h⟩
  obtain ⟨B, hB⟩ : ∃ B, w.heap.size = B := ⟨_, rfl⟩
  obtain ⟨Wa, hWa⟩ : ∃ W, w.alloc (.cells #[.int .u8 ek, .slice A1 n1 c1, .int .i64 ec, .int .i64 er, .int .u8 ea] 48) = W := ⟨_, rfl⟩
  have hXa : Wa.heap.size = B + 1 := by rw [← hWa, ← hB]; simp
  obtain ⟨W, hW⟩ : ∃ W, Wa.alloc (.cells #[.int .u8 fk, .slice A2 n2 c2, .int .i64 fc, .int .i64 fr, .int .u8 fa] 48) = W := ⟨_, rfl⟩
  have hXb : W.heap.size = B + 2 := by rw [← hW]; simp [hXa]
  have HB0 : Hid (W.heap[B]? = some (.cells #[.int .u8 ek, .slice A1 n1 c1, .int .i64 ec, .int .i64 er, .int .u8 ea] 48 (0, 0))) := Lib.hid (by rw [← hW, heap_alloc_old _ _ (by omega), ← hWa, ← hB]; exact heap_alloc_last _ _)
  have HB1 : Hid (W.heap[B + 1]? = some (.cells #[.int .u8 fk, .slice A2 n2 c2, .int .i64 fc, .int .i64 fr, .int .u8 fa] 48 (0, 0))) := Lib.hid (by rw [← hW, ← hXa]; exact heap_alloc_last _ _)
  have HBA : Below w.heap.size w Wa := by rw [← hWa]; exact Below.alloc (Below.refl _ _) (Nat.le_refl _) _
  have HBW : Hid (Below w.heap.size w W) := Lib.hid (by rw [← hW]; exact Below.alloc HBA HBA.size _)
  have ze0 : W.cell? ⟨B, 0, none⟩ = some (.int .u8 ek) := (cell_of_row _ _ _ _ _ _ HB0.out).trans rfl
  have ze1 : W.cell? ⟨B, 1, none⟩ = some (.slice A1 n1 c1) := (cell_of_row _ _ _ _ _ _ HB0.out).trans rfl
  have ze2 : W.cell? ⟨B, 2, none⟩ = some (.int .i64 ec) := (cell_of_row _ _ _ _ _ _ HB0.out).trans rfl
  have ze3 : W.cell? ⟨B, 3, none⟩ = some (.int .i64 er) := (cell_of_row _ _ _ _ _ _ HB0.out).trans rfl
  have ze4 : W.cell? ⟨B, 4, none⟩ = some (.int .u8 ea) := (cell_of_row _ _ _ _ _ _ HB0.out).trans rfl
  have zf0 : W.cell? ⟨B + 1, 0, none⟩ = some (.int .u8 fk) := (cell_of_row _ _ _ _ _ _ HB1.out).trans rfl
  have zf1 : W.cell? ⟨B + 1, 1, none⟩ = some (.slice A2 n2 c2) := (cell_of_row _ _ _ _ _ _ HB1.out).trans rfl
  have zf2 : W.cell? ⟨B + 1, 2, none⟩ = some (.int .i64 fc) := (cell_of_row _ _ _ _ _ _ HB1.out).trans rfl
  have zf3 : W.cell? ⟨B + 1, 3, none⟩ = some (.int .i64 fr) := (cell_of_row _ _ _ _ _ _ HB1.out).trans rfl
  have zf4 : W.cell? ⟨B + 1, 4, none⟩ = some (.int .u8 fa) := (cell_of_row _ _ _ _ _ _ HB1.out).trans rfl
  have HS := Lib.hid (same_bytes _ _ eb fb W (hu.below HBW.out) (hv.below HBW.out))
  clear HBA hu hv
  by_cases h1 : ek = fk
  · subst h1
    by_cases h2 : eb = fb
    · have hd : decide (eb = fb) = true := decide_eq_true h2
      by_cases h3 : ec = fc
      · subst h3
        by_cases h4 : er = fr
        · subst h4
          by_cases h5 : ea = fa
          · subst h5
            have HT : Hid (sv = true) := Lib.hid (by rw [HSE.out]; simp [h2])
            go_enter Try.func26, Try.ntmps26
            go_wp2_with fail
            refine HS.out.mono ?_
            rintro e w1 ⟨rfl, hw1⟩
            subst w1
            rw [hd]
            go_wp2_with fail
            go_ret
            exact ⟨(by rw [HT.out] <;> rfl), (by first | exact HBW.out | exact hB ▸ HBW.out)⟩
          · have hb2 : (ea == fa) = false := by simpa using h5
            have HF : Hid (sv = false) := Lib.hid (by rw [HSE.out]; simp [h5])
            go_enter Try.func26, Try.ntmps26
            go_wp2_with fail
            refine HS.out.mono ?_
            rintro e w1 ⟨rfl, hw1⟩
            subst w1
            rw [hd]
            go_wp2_with fail
            go_ret
            exact ⟨(by rw [HF.out] <;> rfl), (by first | exact HBW.out | exact hB ▸ HBW.out)⟩
        · have hb1 : (er == fr) = false := by simpa using h4
          have HF : Hid (sv = false) := Lib.hid (by rw [HSE.out]; simp [h4])
          go_enter Try.func26, Try.ntmps26
          go_wp2_with fail
          refine HS.out.mono ?_
          rintro e w1 ⟨rfl, hw1⟩
          subst w1
          rw [hd]
          go_wp2_with fail
          go_ret
          exact ⟨(by rw [HF.out] <;> rfl), (by first | exact HBW.out | exact hB ▸ HBW.out)⟩
      · have hb0 : (ec == fc) = false := by simpa using h3
        have HF : Hid (sv = false) := Lib.hid (by rw [HSE.out]; simp [h3])
        go_enter Try.func26, Try.ntmps26
        go_wp2_with fail
        refine HS.out.mono ?_
        rintro e w1 ⟨rfl, hw1⟩
        subst w1
        rw [hd]
        go_wp2_with fail
        go_ret
        exact ⟨(by rw [HF.out] <;> rfl), (by first | exact HBW.out | exact hB ▸ HBW.out)⟩
    · have hd : decide (eb = fb) = false := decide_eq_false h2
      have HF : Hid (sv = false) := Lib.hid (by rw [HSE.out]; simp [h2])
      go_enter Try.func26, Try.ntmps26
      go_wp2_with fail
      refine HS.out.mono ?_
      rintro e w1 ⟨rfl, hw1⟩
      subst w1
      rw [hd]
      go_wp2_with fail
      go_ret
      exact ⟨(by rw [HF.out] <;> rfl), (by first | exact HBW.out | exact hB ▸ HBW.out)⟩
  · have hb : (ek == fk) = false := by simpa using h1
    have HF : Hid (sv = false) := Lib.hid (by rw [HSE.out]; simp [h1])
    go_enter Try.func26, Try.ntmps26
    go_wp2_with fail
    go_ret
    exact ⟨(by rw [HF.out] <;> rfl), (by first | exact HBW.out | exact hB ▸ HBW.out)⟩
theorem wsameE_any (e f : Event) (u v : Value) (w : World) (hu : BB w u e.bs) (hv : BB w v f.bs) :
    Calls Try.prog 28 #[.agg (erow ⟨e, u⟩), .agg (erow ⟨f, v⟩)] w fun r w' => r = .returned (.bool (sameE e f)) ∧ Below w.heap.size w w' := by
  obtain ⟨ek, eb, ec, er, ea⟩ := e
  obtain ⟨fk, fb, fc, fr, fa⟩ := f
  have HSE : Hid (sameE ⟨ek, eb, ec, er, ea⟩ ⟨fk, fb, fc, fr, fa⟩ = decide (ek = fk ∧ eb = fb ∧ ec = fc ∧ er = fr ∧ ea = fa)) := Lib.hid rfl
  obtain ⟨sv, hsv⟩ : ∃ s, sameE ⟨ek, eb, ec, er, ea⟩ ⟨fk, fb, fc, fr, fa⟩ = s := ⟨_, rfl⟩
  rw [hsv] at HSE ⊢
  clear hsv
  unfold erow
  dsimp only at hu hv ⊢
  obtain ⟨A1, n1, c1, rfl⟩ : ∃ A n c, u = .slice A n c := by obtain ⟨_, _, A, c, h, _⟩ := hu; exact ⟨_, _, _, h⟩
  obtain ⟨A2, n2, c2, rfl⟩ : ∃ A n c, v = .slice A n c := by obtain ⟨_, _, A, c, h, _⟩ := hv; exact ⟨_, _, _, h⟩
  obtain ⟨B, hB⟩ : ∃ B, w.heap.size = B := ⟨_, rfl⟩
  obtain ⟨Wa, hWa⟩ : ∃ W, w.alloc (.cells #[.int .u8 ek, .slice A1 n1 c1, .int .i64 ec, .int .i64 er, .int .u8 ea] 48) = W := ⟨_, rfl⟩
  have hXa : Wa.heap.size = B + 1 := by rw [← hWa, ← hB]; simp
  obtain ⟨W, hW⟩ : ∃ W, Wa.alloc (.cells #[.int .u8 fk, .slice A2 n2 c2, .int .i64 fc, .int .i64 fr, .int .u8 fa] 48) = W := ⟨_, rfl⟩
  have hXb : W.heap.size = B + 2 := by rw [← hW]; simp [hXa]
  have HB0 : Hid (W.heap[B]? = some (.cells #[.int .u8 ek, .slice A1 n1 c1, .int .i64 ec, .int .i64 er, .int .u8 ea] 48 (0, 0))) := Lib.hid (by rw [← hW, heap_alloc_old _ _ (by omega), ← hWa, ← hB]; exact heap_alloc_last _ _)
  have HB1 : Hid (W.heap[B + 1]? = some (.cells #[.int .u8 fk, .slice A2 n2 c2, .int .i64 fc, .int .i64 fr, .int .u8 fa] 48 (0, 0))) := Lib.hid (by rw [← hW, ← hXa]; exact heap_alloc_last _ _)
  have HBA : Below w.heap.size w Wa := by rw [← hWa]; exact Below.alloc (Below.refl _ _) (Nat.le_refl _) _
  have HBW : Hid (Below w.heap.size w W) := Lib.hid (by rw [← hW]; exact Below.alloc HBA HBA.size _)
  have ze0 : W.cell? ⟨B, 0, none⟩ = some (.int .u8 ek) := (cell_of_row _ _ _ _ _ _ HB0.out).trans rfl
  have ze1 : W.cell? ⟨B, 1, none⟩ = some (.slice A1 n1 c1) := (cell_of_row _ _ _ _ _ _ HB0.out).trans rfl
  have ze2 : W.cell? ⟨B, 2, none⟩ = some (.int .i64 ec) := (cell_of_row _ _ _ _ _ _ HB0.out).trans rfl
  have ze3 : W.cell? ⟨B, 3, none⟩ = some (.int .i64 er) := (cell_of_row _ _ _ _ _ _ HB0.out).trans rfl
  have ze4 : W.cell? ⟨B, 4, none⟩ = some (.int .u8 ea) := (cell_of_row _ _ _ _ _ _ HB0.out).trans rfl
  have zf0 : W.cell? ⟨B + 1, 0, none⟩ = some (.int .u8 fk) := (cell_of_row _ _ _ _ _ _ HB1.out).trans rfl
  have zf1 : W.cell? ⟨B + 1, 1, none⟩ = some (.slice A2 n2 c2) := (cell_of_row _ _ _ _ _ _ HB1.out).trans rfl
  have zf2 : W.cell? ⟨B + 1, 2, none⟩ = some (.int .i64 fc) := (cell_of_row _ _ _ _ _ _ HB1.out).trans rfl
  have zf3 : W.cell? ⟨B + 1, 3, none⟩ = some (.int .i64 fr) := (cell_of_row _ _ _ _ _ _ HB1.out).trans rfl
  have zf4 : W.cell? ⟨B + 1, 4, none⟩ = some (.int .u8 fa) := (cell_of_row _ _ _ _ _ _ HB1.out).trans rfl
  have HS := Lib.hid (equal_bytes _ _ eb fb W (hu.below HBW.out) (hv.below HBW.out))
  clear HBA hu hv
  by_cases h1 : ek = fk
  · subst h1
    by_cases h2 : eb = fb
    · have hd : decide (eb = fb) = true := decide_eq_true h2
      by_cases h3 : ec = fc
      · subst h3
        by_cases h4 : er = fr
        · subst h4
          by_cases h5 : ea = fa
          · subst h5
            have HT : Hid (sv = true) := Lib.hid (by rw [HSE.out]; simp [h2])
            go_enter Try.func28, Try.ntmps28
            go_wp2_with fail
            refine HS.out.mono ?_
            rintro e w1 ⟨rfl, hw1⟩
            subst w1
            rw [hd]
            go_wp2_with fail
            go_ret
            exact ⟨(by rw [HT.out] <;> rfl), (by first | exact HBW.out | exact hB ▸ HBW.out)⟩
          · have hb2 : (ea == fa) = false := by simpa using h5
            have HF : Hid (sv = false) := Lib.hid (by rw [HSE.out]; simp [h5])
            go_enter Try.func28, Try.ntmps28
            go_wp2_with fail
            refine HS.out.mono ?_
            rintro e w1 ⟨rfl, hw1⟩
            subst w1
            rw [hd]
            go_wp2_with fail
            go_ret
            exact ⟨(by rw [HF.out] <;> rfl), (by first | exact HBW.out | exact hB ▸ HBW.out)⟩
        · have hb1 : (er == fr) = false := by simpa using h4
          have HF : Hid (sv = false) := Lib.hid (by rw [HSE.out]; simp [h4])
          go_enter Try.func28, Try.ntmps28
          go_wp2_with fail
          refine HS.out.mono ?_
          rintro e w1 ⟨rfl, hw1⟩
          subst w1
          rw [hd]
          go_wp2_with fail
          go_ret
          exact ⟨(by rw [HF.out] <;> rfl), (by first | exact HBW.out | exact hB ▸ HBW.out)⟩
      · have hb0 : (ec == fc) = false := by simpa using h3
        have HF : Hid (sv = false) := Lib.hid (by rw [HSE.out]; simp [h3])
        go_enter Try.func28, Try.ntmps28
        go_wp2_with fail
        refine HS.out.mono ?_
        rintro e w1 ⟨rfl, hw1⟩
        subst w1
        rw [hd]
        go_wp2_with fail
        go_ret
        exact ⟨(by rw [HF.out] <;> rfl), (by first | exact HBW.out | exact hB ▸ HBW.out)⟩
    · have hd : decide (eb = fb) = false := decide_eq_false h2
      have HF : Hid (sv = false) := Lib.hid (by rw [HSE.out]; simp [h2])
      go_enter Try.func28, Try.ntmps28
      go_wp2_with fail
      refine HS.out.mono ?_
      rintro e w1 ⟨rfl, hw1⟩
      subst w1
      rw [hd]
      go_wp2_with fail
      go_ret
      exact ⟨(by rw [HF.out] <;> rfl), (by first | exact HBW.out | exact hB ▸ HBW.out)⟩
  · have hb : (ek == fk) = false := by simpa using h1
    have HF : Hid (sv = false) := Lib.hid (by rw [HSE.out]; simp [h1])
    go_enter Try.func28, Try.ntmps28
    go_wp2_with fail
    go_ret
    exact ⟨(by rw [HF.out] <;> rfl), (by first | exact HBW.out | exact hB ▸ HBW.out)⟩
/-- The same events, in two slices. -/
theorem lists_any (E : List Event) (u v : Value) (w : World) (hu : EvL w u E) (hv : EvL w v E) : Calls Try.prog 11 #[u, v] w fun e w' => e = .returned (.bool true) ∧ Below w.heap.size w w' := by
  have H1 := Lib.hid hu
  have H2 := Lib.hid hv
  obtain ⟨hlen, A1, c1, rfl, hn1, hl1, hm1, hi1⟩ := hu
  obtain ⟨_, A2, c2, rfl, hn2, hl2, hm2, hi2⟩ := hv
  have HI1 := Lib.hid hi1
  have HI2 := Lib.hid hi2
  obtain ⟨n, hn⟩ : ∃ n, E.length = n := ⟨_, rfl⟩
  rw [hn] at hlen hl1 hl2 HI1 HI2 ⊢
  clear hi1 hi2 hn1 hn2 hn
  go_enter Try.func11, Try.ntmps11
  go_wp2_with fail
  go_loopw [5] (fun i wr => ∃ k : Nat, k ≤ n ∧ i = .int .i64 k ∧ Hid (Below w.heap.size w wr)) (fun i _ => n - (intOf i).toNat)
  case atStart => exact ⟨0, by omega, rfl, Lib.hid (Below.refl _ _)⟩
  case round =>
    obtain ⟨k, hk, rfl, HB⟩ := hrel
    by_cases hkn : k < n
    · have hki : (k : Int) < (n : Int) := by omega
      have hk0 : (0 : Int) ≤ (k : Int) := by omega
      obtain ⟨b1, o1, rfl, he1⟩ := HI1.out k hkn
      obtain ⟨b2, o2, rfl, he2⟩ := HI2.out k hkn
      have hb1 : b1 < w.heap.size := by obtain ⟨u, q0, _⟩ := he1; exact block_lt_of_cell q0
      have hb2 : b2 < w.heap.size := by obtain ⟨u, q0, _⟩ := he2; exact block_lt_of_cell q0
      obtain ⟨u1, hu1, ok1, r1⟩ := run_load_ev he1
      obtain ⟨u2, hu2, ok2, r2⟩ := run_load_ev he2
      obtain ⟨e, hee⟩ : ∃ e, E.getD k zE = e := ⟨_, rfl⟩
      rw [hee] at hu1 hu2 r1 r2
      have HU1 := Lib.hid hu1
      have HU2 := Lib.hid hu2
      have HR1 := Lib.hid r1
      have HR2 := Lib.hid r2
      clear he1 he2 hu1 hu2 r1 r2 ok1 ok2
      go_wp2_with fail
      apply wp_region_effT _ _ (Inv.start0 wr fun _ => False) (hm := by kernel_rfl)
      case h =>
        (apply SeqF.pure; (focus (first | rfl | (go_simp; done) | (simp [Region.wanted, yielded]; done))); (focus (intro w; go_simp; with_reducible rfl)); go_simp)
        (apply SeqF.pure; (focus (first | rfl | (go_simp; done) | (simp [Region.wanted, yielded]; done))); (focus (intro w; go_simp; with_reducible rfl)); go_simp)
        (apply SeqF.pure; (focus (first | rfl | (go_simp; done) | (simp [Region.wanted, yielded]; done))); (focus (intro w; go_simp; with_reducible rfl)); go_simp)
        apply SeqF.read (v := .agg (erow ⟨e, u1⟩)) []
        · (first | rfl | (go_simp; done) | (simp [Region.wanted, yielded]; done))
        · exact fun γ' W hg hI => exec_load rfl rfl (HR1.out W ((hI.far b1 (by have := HB.out.size; omega) (fun h => h)).trans (HB.out.block b1 hb1)))
        go_simp
        (apply SeqF.pure; (focus (first | rfl | (go_simp; done) | (simp [Region.wanted, yielded]; done))); (focus (intro w; go_simp; with_reducible rfl)); go_simp)
        (apply SeqF.pure; (focus (first | rfl | (go_simp; done) | (simp [Region.wanted, yielded]; done))); (focus (intro w; go_simp; with_reducible rfl)); go_simp)
        (apply SeqF.pure; (focus (first | rfl | (go_simp; done) | (simp [Region.wanted, yielded]; done))); (focus (intro w; go_simp; with_reducible rfl)); go_simp)
        apply SeqF.read (v := .agg (erow ⟨e, u2⟩)) []
        · (first | rfl | (go_simp; done) | (simp [Region.wanted, yielded]; done))
        · exact fun γ' W hg hI => exec_load rfl rfl (HR2.out W ((hI.far b2 (by have := HB.out.size; omega) (fun h => h)).trans (HB.out.block b2 hb2)))
        go_simp
        apply SeqF.call (v := .bool true) [] 26 #[.agg (erow ⟨e, u1⟩), .agg (erow ⟨e, u2⟩)]
        · (first | rfl | (go_simp; done) | (simp [Region.wanted, yielded]; done))
        · intro w; kernel_rfl
        · intro γ' U hg hI
          have hU : Below w.heap.size w U := hI.belowS HB.out HB.out.size (fun _ h => h.elim)
          refine (rsameE_any e e u1 u2 U (HU1.out.below hU) (HU2.out.below hU)).mono ?_
          rintro r w' ⟨rfl, hb⟩
          exact ⟨by rw [sameE_iff.2 rfl], hI.below hb⟩
        go_simp
        (apply SeqF.pure; (focus (first | rfl | (go_simp; done) | (simp [Region.wanted, yielded]; done))); (focus (intro w; go_simp; with_reducible rfl)); go_simp)
        apply SeqF.done
        intro w9 hI9
        have HB9 := Lib.hid (hI9.belowS HB.out HB.out.size (fun _ h => h.elim))
        clear hI9
        go_simp
        go_wp2_with fail
        go_roundw
        case rel =>
          first
            | exact ⟨k + 1, by omega, by go_num, HB9⟩
            | ((repeat apply Exists.intro); refine ⟨?_, rfl⟩; exact ⟨k + 1, by omega, by go_num, HB9⟩)
        case measure => first | (simp [intOf]; done) | (simp [intOf]; omega)
      case hl => rfl
      case ho => kernel_rfl
    · have hki : ¬ (k : Int) < (n : Int) := by omega
      go_wp2_with fail
      go_ret
      exact ⟨rfl, HB.out⟩
end Go.Proofs.Ytgkiedbefogklaa
