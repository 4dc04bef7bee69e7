/- What is proved: what Write of package fragment and of the reference answer when they are called; conditions: those typed. -/
import Derived.Test.YtnhhibdkojgnlaaFragC
set_option linter.unusedSimpArgs false
set_option linter.unusedVariables false
namespace Go.Proofs.Ytnhhibdkojgnlaa
open Go.RowKit
set_option maxRecDepth 100000
set_option maxHeartbeats 8000000
def writeR (m : Bool) (id n : Nat) (last : Bool) (bs : List Int) : List Int := bif m then writeF id n last bs else []
theorem OwX.bb {w0 W : World} {S : Nat → Prop} {γ : Gh} {v : Value} {xs : List Int} {t : Nat} {x : Option (Nat × Obj)} (h : OwX 5 1 v x xs.length (xs.map (Value.int .u8))) (hI : Inv w0 S γ W) (hx : γ t = x) (hok : okB xs) (hl : xs.length ≤ 140737488355328) : BB W v xs :=
  OwB.rd (base := 0) (h.owns fun g o hgo => ⟨Nat.zero_le _, (hI.here t g o (hx.trans hgo)).1⟩) hok hl
theorem uintB_pos (n : Nat) : 0 < (uintB n).length := by
  unfold uintB uintF
  split <;> simp
theorem or_one (m : Nat) (h : m < 256) : bits .or .u64 ((m : Int) * 2) 1 = ((2 * m + 1 : Nat) : Int) := by
  have key : ∀ m : Fin 256, bits .or .u64 ((m.val : Int) * 2) 1 = ((2 * m.val + 1 : Nat) : Int) := by decide +kernel
  exact key ⟨m, h⟩
theorem write_any (id : Nat) (n : Int) (last : Bool) (v : Value) (bs : List Int) (w : World) (hv : BB w v bs) (hid : id < 18446744073709551616) :
    Calls Try.prog 14 #[partV id n last v] w fun e w' => (∃ vr, e = .returned (.tuple #[vr, .int .i64 (errT (mayB n last bs.length))]) ∧ OwB w' w.heap.size vr (writeR (mayB n last bs.length) id n.toNat last bs)) ∧ Below w.heap.size w w' := by
  obtain ⟨B, hB⟩ : ∃ B, w.heap.size = B := ⟨_, rfl⟩
  obtain ⟨V, hV⟩ : ∃ V, w.alloc (.cells #[.int .u64 id, .int .i64 n, .bool last, v] 33) = V := ⟨_, rfl⟩
  have HL0 : Hid (Below B w V) := Lib.hid (by rw [← hV, ← hB]; (repeat' (first | (with_reducible exact Below.refl _ _) | (with_reducible assumption) | (with_reducible refine Below.alloc ?_ ?_ _) | (with_reducible refine below_setRow ?_ ?_ _) | (with_reducible refine bl_drew ?_) | (with_reducible refine bl_drewN ?_ _) | (with_reducible refine Below.setCell ?_ ?_ _) | (with_reducible refine bl_then ?_ ?_ hb) | (with_reducible refine bl_then ?_ ?_ hb1) | (with_reducible refine bl_then ?_ ?_ hb2) | (with_reducible refine bl_then ?_ ?_ hb3) | (with_reducible refine bl_then ?_ ?_ hb4) | (with_reducible refine bl_then ?_ ?_ hb5) | (with_reducible refine bl_then ?_ ?_ hb6) | (with_reducible refine bl_then ?_ ?_ hb7) | (with_reducible refine bl_then ?_ ?_ hb8) | (with_reducible exact Nat.le_refl _) | omega | (simp only [World.size_alloc, World.size_setCell, World.size_drew, size_setRow]; omega) | (simp; omega) | (simp; done))))
  have HB0 : Hid (V.heap[B]? = some (.cells #[.int .u64 id, .int .i64 n, .bool last, v] 33 (0, 0))) := Lib.hid (by rw [← hV, ← hB]; exact heap_alloc_last _ _)
  have HV := Lib.hid (hv.below (by rw [hB]; exact HL0.out))
  obtain ⟨_, _, A9, c9, hv9, _⟩ := hv
  have e1 : partV id n last v = .agg #[.int .u64 id, .int .i64 n, .bool last, v] := rfl
  rw [e1]
  clear e1
  cases hm : mayB n last bs.length with
  | false =>
    have HM := Lib.hid hm
    clear hm hv9
    go_enter Try.func14, Try.ntmps14
    go_wp2_with (with_reducible refine wpList_ldB (row := #[.int .u64 id, .int .i64 n, .bool last, v]) partInfo partRow rfl (.tmp 1) rfl rfl HB0.out ?_)
    refine (may_any id n last v bs _ HV.out).mono ?_
    rintro e w1 ⟨rfl, hb⟩
    rw [HM.out]
    have HL1 := Lib.hid (bl_then HL0.out (by have := lt_of_heap HB0.out; omega) hb)
    clear hb
    go_wp2_with fail
    exact bodyPost_ret (v := .tuple #[.slice none 0 0, .int .i64 2]) (by simp [results, Try.results14, go_sem]) rfl ⟨⟨_, rfl, OwB.nil _ _⟩, by (try rw [hB]); exact HL1.out⟩
  | true =>
    have HM := Lib.hid hm
    have HV9 := Lib.hid hv9
    clear hv9
    have hm' := hm
    simp only [mayB, Bool.and_eq_true, decide_eq_true_eq] at hm'
    obtain ⟨m, rfl⟩ := Int.eq_ofNat_of_zero_le hm'.1
    have hm256 : m < 256 := by omega
    have hbl : bs.length ≤ 1024 := hm'.2.2.1
    clear hm hm'
    obtain ⟨q, hq⟩ : ∃ q, 2 * m + last.toNat = q := ⟨_, rfl⟩
    have hq512 : q < 512 := by cases last <;> simp at hq <;> omega
    have hqu : q < 18446744073709551616 := by omega
    obtain ⟨X1, hX1⟩ : ∃ x, uintB id = x := ⟨_, rfl⟩
    obtain ⟨X2, hX2⟩ : ∃ x, uintB q = x := ⟨_, rfl⟩
    have HOK1 : Hid (okB X1 ∧ X1.length ≤ 11 ∧ 0 < X1.length) := Lib.hid (by rw [← hX1]; exact ⟨uintB_ok hid, uintB_len _, uintB_pos _⟩)
    have HOK2 : Hid (okB X2 ∧ X2.length ≤ 11) := Lib.hid (by rw [← hX2]; exact ⟨uintB_ok hqu, uintB_len _⟩)
    have HU1 : Hid (∀ W, Calls Try.prog 30 #[.int .u64 id] W fun e w' => (∃ v, e = .returned v ∧ OwB w' W.heap.size v X1) ∧ Below W.heap.size W w') := Lib.hid (fun W => by rw [← hX1]; exact uint_any id W hid)
    have HU2 : Hid (∀ W, Calls Try.prog 30 #[.int .u64 q] W fun e w' => (∃ v, e = .returned v ∧ OwB w' W.heap.size v X2) ∧ Below W.heap.size W w') := Lib.hid (fun W => by rw [← hX2]; exact uint_any q W hqu)
    obtain ⟨Y, hY⟩ : ∃ Y, X1 ++ X2 = Y := ⟨_, rfl⟩
    obtain ⟨Z, hZ⟩ : ∃ Z, X1 ++ (X2 ++ bs) = Z := ⟨_, rfl⟩
    have HY : Hid (X1 ++ X2 = Y ∧ Y ++ bs = Z) := Lib.hid ⟨hY, by rw [← hY, ← hZ]; simp⟩
    have HZ : Hid (X1 ++ (X2 ++ bs) = Z ∧ Z.length ≤ 1046 ∧ 0 < Z.length ∧ Y.length ≤ 22) := Lib.hid (by
      have h1 := HOK1.out
      have h2 := HOK2.out
      refine ⟨hZ, ?_, ?_, ?_⟩
      · rw [← hZ]; simp; omega
      · rw [← hZ]; simp; omega
      · rw [← hY]; simp; omega)
    have HWF : Hid (writeF id m last bs = Z) := Lib.hid (by unfold writeF; rw [hq, hX1, hX2, hZ])
    clear hX1 hX2 hY hZ
    go_enter Try.func14, Try.ntmps14
    go_wp2_with (with_reducible refine wpList_ldB (row := #[.int .u64 id, .int .i64 m, .bool last, v]) partInfo partRow rfl (.tmp 1) rfl rfl HB0.out ?_)
    refine (may_any id m last v bs _ HV.out).mono ?_
    rintro e w1 ⟨rfl, hb⟩
    rw [HM.out]
    have HL1 := Lib.hid (bl_then HL0.out (by have := lt_of_heap HB0.out; omega) hb)
    have HB1 := Lib.hid ((hb.block B (lt_of_heap HB0.out)).trans HB0.out)
    have HV1 := Lib.hid (HV.out.below hb)
    clear hb HL0 HB0 HV hV
    have b1 : w1.cell? ⟨B, 1, none⟩ = some (.int .i64 m) := (cell_of_row _ _ _ _ _ _ HB1.out).trans rfl
    have b2 : w1.cell? ⟨B, 2, none⟩ = some (.bool last) := (cell_of_row _ _ _ _ _ _ HB1.out).trans rfl
    have hw1 : IntKind.u64.wrap (m : Int) = (m : Int) := by rw [IntKind.wrap_u64]; omega
    have HQ := Lib.hid hq
    clear hq
    cases last
    · have hq1 : (m : Int) * 2 = (q : Int) := by have := HQ.out; simp at this; omega
      clear HQ
      go_wp2_with fail
      apply wp_region_effT _ _ (Inv.start0 w1 fun _ => False) (hm := by kernel_rfl)
      case h =>
        (apply SeqF.pure; (focus (first | rfl | (go_simp; done) | (simp [Region.wanted, yielded]; done))); (focus (intro w; go_simp; with_reducible rfl)); go_simp)
        apply SeqF.read (v := .int .u64 id) []
        · (first | rfl | (go_simp; done) | (simp [Region.wanted, yielded]; done))
        · intro γ' W hg hI
          have x0 : W.cell? ⟨B, 0, none⟩ = some (.int .u64 id) := (cell_of_row _ _ _ _ _ _ ((hI.far B (lt_of_heap HB1.out) (fun h => h)).trans HB1.out)).trans rfl
          go_simp
        go_simp
        apply SeqF.callNew [] 1 5 1 X1.length (X1.map (Value.int .u8)) 30 #[.int .u64 id]
        · (first | rfl | (go_simp; done) | (simp [Region.wanted, yielded]; done))
        · intro w; kernel_rfl
        · exact fun γ' U _ hI => HU1.out U
        intro v1 x1 hv1 hn1
        obtain rfl := hv1.val (by decide)
        obtain ⟨A1, c1, hf1⟩ := hv1.form
        have HF1 := Lib.hid hf1
        clear hf1
        go_simp
        (apply SeqF.pure; (focus (first | rfl | (go_simp; done) | (simp [Region.wanted, yielded]; done))); (focus (intro w; go_simp; with_reducible rfl)); go_simp)
        apply SeqF.callNew [] 2 5 1 X2.length (X2.map (Value.int .u8)) 30 #[.int .u64 q]
        · (first | rfl | (go_simp; done) | (simp [Region.wanted, yielded]; done))
        · intro w; kernel_rfl
        · exact fun γ' U _ hI => HU2.out U
        intro v2 x2 hv2 hn2
        obtain rfl := hv2.val (by decide)
        obtain ⟨A2, c2, hf2⟩ := hv2.form
        have HF2 := Lib.hid hf2
        clear hf2
        go_simp
        (apply SeqF.pure; (focus (first | rfl | (go_simp; done) | (simp [Region.wanted, yielded]; done))); (focus (intro w; go_simp; with_reducible rfl)); go_simp)
        apply SeqF.read (v := v) []
        · (first | rfl | (go_simp; done) | (simp [Region.wanted, yielded]; done))
        · intro γ' W hg hI
          have x0 : W.cell? ⟨B, 3, none⟩ = some v := (cell_of_row _ _ _ _ _ _ ((hI.far B (lt_of_heap HB1.out) (fun h => h)).trans HB1.out)).trans rfl
          rw [HV9.out] at x0 ⊢
          go_simp
        go_simp
        apply SeqF.new [1, 2] 3 (fun g => .slice (some ⟨g, 0, none⟩) 3 3) (fun γ => .cells #[rowVal 1 X1.length (γ 1), rowVal 1 X2.length (γ 2), v] 28 (0, 0))
        · intro γ' hg; simp only [hg 1 (by simp), hg 2 (by simp)]
        · (first | rfl | (go_simp; done) | (simp [Region.wanted, yielded]; done))
        · intro γ' V hg hI
          have e1 : ((gh0.set (some 1) x1).set (some 2) x2) 1 = x1 := by rw [Gh.set_far _ _ (by decide), Gh.set_here]
          have e2 : ((gh0.set (some 1) x1).set (some 2) x2) 2 = x2 := Gh.set_here _ _ _
          simp only [e1, e2]
          rw [HF1.out, HF2.out, HV9.out]
          show _ = _
          kernel_rfl
        intro X hX
        have e1 : ((gh0.set (some 1) x1).set (some 2) x2) 1 = x1 := by rw [Gh.set_far _ _ (by decide), Gh.set_here]
        have e2 : ((gh0.set (some 1) x1).set (some 2) x2) 2 = x2 := Gh.set_here _ _ _
        simp only [e1, e2]
        go_simp
        apply SeqF.callNew [1, 2, 3] 4 5 1 Z.length (Z.map (Value.int .u8)) 29 #[.slice (some ⟨X, 0, none⟩) 3 3]
        · (first | rfl | (go_simp; done) | (simp [Region.wanted, yielded]; done))
        · intro w; kernel_rfl
        · intro γ' U hg hI
          have g1 : γ' 1 = x1 := (hg 1 (by simp)).trans (by rw [Gh.set_far _ _ (by decide)]; exact e1)
          have g2 : γ' 2 = x2 := (hg 2 (by simp)).trans (by rw [Gh.set_far _ _ (by decide)]; exact e2)
          have g3 := (hI.here 3 X _ ((hg 3 (by simp)).trans (Gh.set_here _ _ _))).1
          have hc : catF [(rowVal 1 X1.length x1, X1), (rowVal 1 X2.length x2, X2), (v, bs)] = Z := by rw [← HZ.out.1]; simp [catF]
          have h := concat_any X 28 [(rowVal 1 X1.length x1, X1), (rowVal 1 X2.length x2, X2), (v, bs)] U g3 (by
            intro p hp
            simp only [List.mem_cons, List.not_mem_nil, or_false] at hp
            rcases hp with rfl | rfl | rfl
            · exact hv1.bb hI g1 HOK1.out.1 (by have := HOK1.out; omega)
            · exact hv2.bb hI g2 HOK2.out.1 (by have := HOK2.out; omega)
            · exact HV1.out.inv hI (fun _ _ _ h => h)) (by rw [hc]; have := HZ.out; omega) (by rw [hc]; exact HZ.out.2.2.1) (by simp)
          rw [hc] at h
          exact h
        intro vr xr hvr hnr
        obtain rfl := hvr.val (by decide)
        go_simp
        apply SeqF.dyn [4] (fun γ => rowVal 1 Z.length (γ 4))
        · intro γ' hg; simp only [hg 4 (by simp)]
        · (first | rfl | (go_simp; done) | (simp [Region.wanted, yielded]; done))
        · intro γ' V hg hI
          simp only [Gh.set_here]
          go_simp
        simp only [Gh.set_here]
        (apply SeqF.pure; (focus (first | rfl | (go_simp; done) | (simp [Region.wanted, yielded]; done))); (focus (intro w; go_simp; with_reducible rfl)); go_simp)
        apply SeqF.done
        intro w9 hI9
        have HO9 : Hid (OwB w9 w1.heap.size (rowVal 1 Z.length xr) Z) := Lib.hid (hvr.owns fun g o hgo => ⟨hnr g o hgo, (hI9.here 4 g o (by rw [Gh.set_here]; exact hgo)).1⟩)
        have HL9 := Lib.hid (hI9.belowS HL1.out (by have := lt_of_heap HB1.out; omega) (fun _ h => h.elim))
        have hszB := lt_of_heap HB1.out
        clear hI9 hvr hnr hv1 hn1 hv2 hn2
        generalize rowVal 1 Z.length xr = vr at *
        go_simp
        go_wp2_with fail
        refine bodyPost_ret (v := .tuple #[vr, .int .i64 0]) (by simp [results, Try.results14, go_sem]) rfl ⟨⟨vr, rfl, ?_⟩, by (try rw [hB]); exact HL9.out⟩
        show OwB w9 _ vr (writeF id (m : Int).toNat false bs)
        rw [Int.toNat_natCast, HWF.out]
        exact HO9.out.mono (by omega)
      case hl => rfl
      case ho => kernel_rfl
    · have hq1 : bits .or .u64 ((m : Int) * 2) 1 = (q : Int) := by rw [or_one m hm256, ← HQ.out]; rfl
      clear HQ
      go_wp2_with fail
      apply wp_region_effT _ _ (Inv.start0 w1 fun _ => False) (hm := by kernel_rfl)
      case h =>
        (apply SeqF.pure; (focus (first | rfl | (go_simp; done) | (simp [Region.wanted, yielded]; done))); (focus (intro w; go_simp; with_reducible rfl)); go_simp)
        apply SeqF.read (v := .int .u64 id) []
        · (first | rfl | (go_simp; done) | (simp [Region.wanted, yielded]; done))
        · intro γ' W hg hI
          have x0 : W.cell? ⟨B, 0, none⟩ = some (.int .u64 id) := (cell_of_row _ _ _ _ _ _ ((hI.far B (lt_of_heap HB1.out) (fun h => h)).trans HB1.out)).trans rfl
          go_simp
        go_simp
        apply SeqF.callNew [] 1 5 1 X1.length (X1.map (Value.int .u8)) 30 #[.int .u64 id]
        · (first | rfl | (go_simp; done) | (simp [Region.wanted, yielded]; done))
        · intro w; kernel_rfl
        · exact fun γ' U _ hI => HU1.out U
        intro v1 x1 hv1 hn1
        obtain rfl := hv1.val (by decide)
        obtain ⟨A1, c1, hf1⟩ := hv1.form
        have HF1 := Lib.hid hf1
        clear hf1
        go_simp
        (apply SeqF.pure; (focus (first | rfl | (go_simp; done) | (simp [Region.wanted, yielded]; done))); (focus (intro w; go_simp; with_reducible rfl)); go_simp)
        apply SeqF.callNew [] 2 5 1 X2.length (X2.map (Value.int .u8)) 30 #[.int .u64 q]
        · (first | rfl | (go_simp; done) | (simp [Region.wanted, yielded]; done))
        · intro w; kernel_rfl
        · exact fun γ' U _ hI => HU2.out U
        intro v2 x2 hv2 hn2
        obtain rfl := hv2.val (by decide)
        obtain ⟨A2, c2, hf2⟩ := hv2.form
        have HF2 := Lib.hid hf2
        clear hf2
        go_simp
        (apply SeqF.pure; (focus (first | rfl | (go_simp; done) | (simp [Region.wanted, yielded]; done))); (focus (intro w; go_simp; with_reducible rfl)); go_simp)
        apply SeqF.read (v := v) []
        · (first | rfl | (go_simp; done) | (simp [Region.wanted, yielded]; done))
        · intro γ' W hg hI
          have x0 : W.cell? ⟨B, 3, none⟩ = some v := (cell_of_row _ _ _ _ _ _ ((hI.far B (lt_of_heap HB1.out) (fun h => h)).trans HB1.out)).trans rfl
          rw [HV9.out] at x0 ⊢
          go_simp
        go_simp
        apply SeqF.new [1, 2] 3 (fun g => .slice (some ⟨g, 0, none⟩) 3 3) (fun γ => .cells #[rowVal 1 X1.length (γ 1), rowVal 1 X2.length (γ 2), v] 28 (0, 0))
        · intro γ' hg; simp only [hg 1 (by simp), hg 2 (by simp)]
        · (first | rfl | (go_simp; done) | (simp [Region.wanted, yielded]; done))
        · intro γ' V hg hI
          have e1 : ((gh0.set (some 1) x1).set (some 2) x2) 1 = x1 := by rw [Gh.set_far _ _ (by decide), Gh.set_here]
          have e2 : ((gh0.set (some 1) x1).set (some 2) x2) 2 = x2 := Gh.set_here _ _ _
          simp only [e1, e2]
          rw [HF1.out, HF2.out, HV9.out]
          show _ = _
          kernel_rfl
        intro X hX
        have e1 : ((gh0.set (some 1) x1).set (some 2) x2) 1 = x1 := by rw [Gh.set_far _ _ (by decide), Gh.set_here]
        have e2 : ((gh0.set (some 1) x1).set (some 2) x2) 2 = x2 := Gh.set_here _ _ _
        simp only [e1, e2]
        go_simp
        apply SeqF.callNew [1, 2, 3] 4 5 1 Z.length (Z.map (Value.int .u8)) 29 #[.slice (some ⟨X, 0, none⟩) 3 3]
        · (first | rfl | (go_simp; done) | (simp [Region.wanted, yielded]; done))
        · intro w; kernel_rfl
        · intro γ' U hg hI
          have g1 : γ' 1 = x1 := (hg 1 (by simp)).trans (by rw [Gh.set_far _ _ (by decide)]; exact e1)
          have g2 : γ' 2 = x2 := (hg 2 (by simp)).trans (by rw [Gh.set_far _ _ (by decide)]; exact e2)
          have g3 := (hI.here 3 X _ ((hg 3 (by simp)).trans (Gh.set_here _ _ _))).1
          have hc : catF [(rowVal 1 X1.length x1, X1), (rowVal 1 X2.length x2, X2), (v, bs)] = Z := by rw [← HZ.out.1]; simp [catF]
          have h := concat_any X 28 [(rowVal 1 X1.length x1, X1), (rowVal 1 X2.length x2, X2), (v, bs)] U g3 (by
            intro p hp
            simp only [List.mem_cons, List.not_mem_nil, or_false] at hp
            rcases hp with rfl | rfl | rfl
            · exact hv1.bb hI g1 HOK1.out.1 (by have := HOK1.out; omega)
            · exact hv2.bb hI g2 HOK2.out.1 (by have := HOK2.out; omega)
            · exact HV1.out.inv hI (fun _ _ _ h => h)) (by rw [hc]; have := HZ.out; omega) (by rw [hc]; exact HZ.out.2.2.1) (by simp)
          rw [hc] at h
          exact h
        intro vr xr hvr hnr
        obtain rfl := hvr.val (by decide)
        go_simp
        apply SeqF.dyn [4] (fun γ => rowVal 1 Z.length (γ 4))
        · intro γ' hg; simp only [hg 4 (by simp)]
        · (first | rfl | (go_simp; done) | (simp [Region.wanted, yielded]; done))
        · intro γ' V hg hI
          simp only [Gh.set_here]
          go_simp
        simp only [Gh.set_here]
        (apply SeqF.pure; (focus (first | rfl | (go_simp; done) | (simp [Region.wanted, yielded]; done))); (focus (intro w; go_simp; with_reducible rfl)); go_simp)
        apply SeqF.done
        intro w9 hI9
        have HO9 : Hid (OwB w9 w1.heap.size (rowVal 1 Z.length xr) Z) := Lib.hid (hvr.owns fun g o hgo => ⟨hnr g o hgo, (hI9.here 4 g o (by rw [Gh.set_here]; exact hgo)).1⟩)
        have HL9 := Lib.hid (hI9.belowS HL1.out (by have := lt_of_heap HB1.out; omega) (fun _ h => h.elim))
        have hszB := lt_of_heap HB1.out
        clear hI9 hvr hnr hv1 hn1 hv2 hn2
        generalize rowVal 1 Z.length xr = vr at *
        go_simp
        go_wp2_with fail
        refine bodyPost_ret (v := .tuple #[vr, .int .i64 0]) (by simp [results, Try.results14, go_sem]) rfl ⟨⟨vr, rfl, ?_⟩, by (try rw [hB]); exact HL9.out⟩
        show OwB w9 _ vr (writeF id (m : Int).toNat true bs)
        rw [Int.toNat_natCast, HWF.out]
        exact HO9.out.mono (by omega)
      case hl => rfl
      case ho => kernel_rfl
theorem rwrite_any (id : Nat) (n : Int) (last : Bool) (v : Value) (bs : List Int) (w : World) (hv : BB w v bs) (hid : id < 18446744073709551616) :
    Calls Try.prog 15 #[partV id n last v] w fun e w' => (∃ vr, e = .returned (.tuple #[vr, .int .i64 (errT (mayB n last bs.length))]) ∧ OwB w' w.heap.size vr (writeR (mayB n last bs.length) id n.toNat last bs)) ∧ Below w.heap.size w w' := by
  obtain ⟨B, hB⟩ : ∃ B, w.heap.size = B := ⟨_, rfl⟩
  obtain ⟨V, hV⟩ : ∃ V, w.alloc (.cells #[.int .u64 id, .int .i64 n, .bool last, v] 33) = V := ⟨_, rfl⟩
  have HL0 : Hid (Below B w V) := Lib.hid (by rw [← hV, ← hB]; (repeat' (first | (with_reducible exact Below.refl _ _) | (with_reducible assumption) | (with_reducible refine Below.alloc ?_ ?_ _) | (with_reducible refine below_setRow ?_ ?_ _) | (with_reducible refine bl_drew ?_) | (with_reducible refine bl_drewN ?_ _) | (with_reducible refine Below.setCell ?_ ?_ _) | (with_reducible refine bl_then ?_ ?_ hb) | (with_reducible refine bl_then ?_ ?_ hb1) | (with_reducible refine bl_then ?_ ?_ hb2) | (with_reducible refine bl_then ?_ ?_ hb3) | (with_reducible refine bl_then ?_ ?_ hb4) | (with_reducible refine bl_then ?_ ?_ hb5) | (with_reducible refine bl_then ?_ ?_ hb6) | (with_reducible refine bl_then ?_ ?_ hb7) | (with_reducible refine bl_then ?_ ?_ hb8) | (with_reducible exact Nat.le_refl _) | omega | (simp only [World.size_alloc, World.size_setCell, World.size_drew, size_setRow]; omega) | (simp; omega) | (simp; done))))
  have HB0 : Hid (V.heap[B]? = some (.cells #[.int .u64 id, .int .i64 n, .bool last, v] 33 (0, 0))) := Lib.hid (by rw [← hV, ← hB]; exact heap_alloc_last _ _)
  have HV := Lib.hid (hv.below (by rw [hB]; exact HL0.out))
  obtain ⟨_, _, A9, c9, hv9, _⟩ := hv
  have e1 : partV id n last v = .agg #[.int .u64 id, .int .i64 n, .bool last, v] := rfl
  rw [e1]
  clear e1
  cases hm : mayB n last bs.length with
  | false =>
    have HM := Lib.hid hm
    clear hm hv9
    go_enter Try.func15, Try.ntmps15
    go_wp2_with (with_reducible refine wpList_ldB (row := #[.int .u64 id, .int .i64 n, .bool last, v]) partInfo partRow rfl (.tmp 1) rfl rfl HB0.out ?_)
    refine (rmay_any id n last v bs _ HV.out).mono ?_
    rintro e w1 ⟨rfl, hb⟩
    rw [HM.out]
    have HL1 := Lib.hid (bl_then HL0.out (by have := lt_of_heap HB0.out; omega) hb)
    clear hb
    go_wp2_with fail
    exact bodyPost_ret (v := .tuple #[.slice none 0 0, .int .i64 2]) (by simp [results, Try.results15, go_sem]) rfl ⟨⟨_, rfl, OwB.nil _ _⟩, by (try rw [hB]); exact HL1.out⟩
  | true =>
    have HM := Lib.hid hm
    have HV9 := Lib.hid hv9
    clear hv9
    have hm' := hm
    simp only [mayB, Bool.and_eq_true, decide_eq_true_eq] at hm'
    obtain ⟨m, rfl⟩ := Int.eq_ofNat_of_zero_le hm'.1
    have hm256 : m < 256 := by omega
    have hbl : bs.length ≤ 1024 := hm'.2.2.1
    clear hm hm'
    obtain ⟨q, hq⟩ : ∃ q, 2 * m + last.toNat = q := ⟨_, rfl⟩
    have hq512 : q < 512 := by cases last <;> simp at hq <;> omega
    have hqu : q < 18446744073709551616 := by omega
    obtain ⟨X1, hX1⟩ : ∃ x, uintB id = x := ⟨_, rfl⟩
    obtain ⟨X2, hX2⟩ : ∃ x, uintB q = x := ⟨_, rfl⟩
    have HOK1 : Hid (okB X1 ∧ X1.length ≤ 11 ∧ 0 < X1.length) := Lib.hid (by rw [← hX1]; exact ⟨uintB_ok hid, uintB_len _, uintB_pos _⟩)
    have HOK2 : Hid (okB X2 ∧ X2.length ≤ 11) := Lib.hid (by rw [← hX2]; exact ⟨uintB_ok hqu, uintB_len _⟩)
    have HU1 : Hid (∀ W, Calls Try.prog 31 #[.int .u64 id] W fun e w' => (∃ v, e = .returned v ∧ OwB w' W.heap.size v X1) ∧ Below W.heap.size W w') := Lib.hid (fun W => by rw [← hX1]; exact ruint_any id W hid)
    have HU2 : Hid (∀ W, Calls Try.prog 31 #[.int .u64 q] W fun e w' => (∃ v, e = .returned v ∧ OwB w' W.heap.size v X2) ∧ Below W.heap.size W w') := Lib.hid (fun W => by rw [← hX2]; exact ruint_any q W hqu)
    obtain ⟨Y, hY⟩ : ∃ Y, X1 ++ X2 = Y := ⟨_, rfl⟩
    obtain ⟨Z, hZ⟩ : ∃ Z, X1 ++ (X2 ++ bs) = Z := ⟨_, rfl⟩
    have HY : Hid (X1 ++ X2 = Y ∧ Y ++ bs = Z) := Lib.hid ⟨hY, by rw [← hY, ← hZ]; simp⟩
    have HZ : Hid (X1 ++ (X2 ++ bs) = Z ∧ Z.length ≤ 1046 ∧ 0 < Z.length ∧ Y.length ≤ 22) := Lib.hid (by
      have h1 := HOK1.out
      have h2 := HOK2.out
      refine ⟨hZ, ?_, ?_, ?_⟩
      · rw [← hZ]; simp; omega
      · rw [← hZ]; simp; omega
      · rw [← hY]; simp; omega)
    have HWF : Hid (writeF id m last bs = Z) := Lib.hid (by unfold writeF; rw [hq, hX1, hX2, hZ])
    clear hX1 hX2 hY hZ
    go_enter Try.func15, Try.ntmps15
    go_wp2_with (with_reducible refine wpList_ldB (row := #[.int .u64 id, .int .i64 m, .bool last, v]) partInfo partRow rfl (.tmp 1) rfl rfl HB0.out ?_)
    refine (rmay_any id m last v bs _ HV.out).mono ?_
    rintro e w1 ⟨rfl, hb⟩
    rw [HM.out]
    have HL1 := Lib.hid (bl_then HL0.out (by have := lt_of_heap HB0.out; omega) hb)
    have HB1 := Lib.hid ((hb.block B (lt_of_heap HB0.out)).trans HB0.out)
    have HV1 := Lib.hid (HV.out.below hb)
    clear hb HL0 HB0 HV hV
    have b1 : w1.cell? ⟨B, 1, none⟩ = some (.int .i64 m) := (cell_of_row _ _ _ _ _ _ HB1.out).trans rfl
    have b2 : w1.cell? ⟨B, 2, none⟩ = some (.bool last) := (cell_of_row _ _ _ _ _ _ HB1.out).trans rfl
    have HQ := Lib.hid hq
    clear hq
    cases last
    · have hq2 : 2 * (m : Int) = (q : Int) := by have := HQ.out; simp at this; omega
      have hw2 : IntKind.i64.wrap (q : Int) = (q : Int) := IntWalk.i64_in _ (by omega)
      have hw3 : IntKind.u64.wrap (q : Int) = (q : Int) := by rw [IntKind.wrap_u64]; omega
      clear HQ
      go_wp2_with fail
      apply wp_region_effT _ _ (Inv.start0 w1 fun _ => False) (hm := by kernel_rfl)
      case h =>
        (apply SeqF.pure; (focus (first | rfl | (go_simp; done) | (simp [Region.wanted, yielded]; done))); (focus (intro w; go_simp; with_reducible rfl)); go_simp)
        apply SeqF.read (v := .int .u64 id) []
        · (first | rfl | (go_simp; done) | (simp [Region.wanted, yielded]; done))
        · intro γ' W hg hI
          have x0 : W.cell? ⟨B, 0, none⟩ = some (.int .u64 id) := (cell_of_row _ _ _ _ _ _ ((hI.far B (lt_of_heap HB1.out) (fun h => h)).trans HB1.out)).trans rfl
          go_simp
        go_simp
        apply SeqF.callNew [] 1 5 1 X1.length (X1.map (Value.int .u8)) 31 #[.int .u64 id]
        · (first | rfl | (go_simp; done) | (simp [Region.wanted, yielded]; done))
        · intro w; kernel_rfl
        · exact fun γ' U _ hI => HU1.out U
        intro v1 x1 hv1 hn1
        obtain rfl := hv1.val (by decide)
        obtain ⟨A1, c1, hf1⟩ := hv1.form
        have HF1 := Lib.hid hf1
        clear hf1
        go_simp
        (apply SeqF.pure; (focus (first | rfl | (go_simp; done) | (simp [Region.wanted, yielded]; done))); (focus (intro w; go_simp; with_reducible rfl)); go_simp)
        apply SeqF.callNew [] 2 5 1 X2.length (X2.map (Value.int .u8)) 31 #[.int .u64 q]
        · (first | rfl | (go_simp; done) | (simp [Region.wanted, yielded]; done))
        · intro w; kernel_rfl
        · exact fun γ' U _ hI => HU2.out U
        intro v2 x2 hv2 hn2
        obtain rfl := hv2.val (by decide)
        obtain ⟨A2, c2, hf2⟩ := hv2.form
        have HF2 := Lib.hid hf2
        clear hf2
        go_simp
        apply SeqF.appB [1, 2] 1 (by simp) (.tmp 18) (.tmp 20) rfl rfl (rowVal 1 X1.length x1) (rowVal 1 X2.length x2) X1 X2 Y (by rw [Gh.set_far _ _ (by decide), Gh.set_here]; exact hv1) rfl rfl
        · exact fun γ' W hg hI => hv2.bb hI ((hg 2 (by simp)).trans (Gh.set_here _ _ _)) HOK2.out.1 (by have := HOK2.out; omega)
        · have := HOK1.out; have := HOK2.out; omega
        · exact HY.out.1
        intro v3 x3 hv3 hn3
        obtain rfl := hv3.val (by decide)
        go_simp
        (apply SeqF.pure; (focus (first | rfl | (go_simp; done) | (simp [Region.wanted, yielded]; done))); (focus (intro w; go_simp; with_reducible rfl)); go_simp)
        apply SeqF.read (v := v) []
        · (first | rfl | (go_simp; done) | (simp [Region.wanted, yielded]; done))
        · intro γ' W hg hI
          have x0 : W.cell? ⟨B, 3, none⟩ = some v := (cell_of_row _ _ _ _ _ _ ((hI.far B (lt_of_heap HB1.out) (fun h => h)).trans HB1.out)).trans rfl
          rw [HV9.out] at x0 ⊢
          go_simp
        go_simp
        apply SeqF.appB [1] 1 (by simp) (.tmp 21) (.tmp 23) rfl rfl (rowVal 1 Y.length x3) v Y bs Z (by rw [Gh.set_here]; exact hv3) rfl rfl
        · exact fun γ' W hg hI => HV1.out.inv hI (fun _ _ _ h => h)
        · have := HZ.out; omega
        · exact HY.out.2
        intro vr xr hvr hn4
        obtain rfl := hvr.val (by decide)
        have hnr : ∀ g o, xr = some (g, o) → w1.heap.size ≤ g := fun g o e => by
          rcases hn4 g o e with ⟨o', h⟩ | h
          · rw [Gh.set_here] at h
            rcases hn3 g o' h with ⟨o'', h⟩ | h
            · rw [Gh.set_far _ _ (by decide), Gh.set_here] at h
              exact hn1 g o'' h
            · exact h
          · exact h
        go_simp
        apply SeqF.dyn [1] (fun γ => rowVal 1 Z.length (γ 1))
        · intro γ' hg; simp only [hg 1 (by simp)]
        · (first | rfl | (go_simp; done) | (simp [Region.wanted, yielded]; done))
        · intro γ' V hg hI
          simp only [Gh.set_here]
          go_simp
        simp only [Gh.set_here]
        (apply SeqF.pure; (focus (first | rfl | (go_simp; done) | (simp [Region.wanted, yielded]; done))); (focus (intro w; go_simp; with_reducible rfl)); go_simp)
        apply SeqF.done
        intro w9 hI9
        have HO9 : Hid (OwB w9 w1.heap.size (rowVal 1 Z.length xr) Z) := Lib.hid (hvr.owns fun g o hgo => ⟨hnr g o hgo, (hI9.here 1 g o (by rw [Gh.set_here]; exact hgo)).1⟩)
        have HL9 := Lib.hid (hI9.belowS HL1.out (by have := lt_of_heap HB1.out; omega) (fun _ h => h.elim))
        have hszB := lt_of_heap HB1.out
        clear hI9 hn3 hn4 hv3 hvr hnr hv1 hn1 hv2 hn2
        generalize rowVal 1 Z.length xr = vr at *
        go_simp
        go_wp2_with fail
        refine bodyPost_ret (v := .tuple #[vr, .int .i64 0]) (by simp [results, Try.results15, go_sem]) rfl ⟨⟨vr, rfl, ?_⟩, by (try rw [hB]); exact HL9.out⟩
        show OwB w9 _ vr (writeF id (m : Int).toNat false bs)
        rw [Int.toNat_natCast, HWF.out]
        exact HO9.out.mono (by omega)
      case hl => rfl
      case ho => kernel_rfl
    · have hw2 : IntKind.i64.wrap (2 * (m : Int)) = 2 * (m : Int) := IntWalk.i64_in _ (by omega)
      have hw3 : IntKind.u64.wrap (2 * (m : Int)) = 2 * (m : Int) := by rw [IntKind.wrap_u64]; omega
      have hq2 : 2 * (m : Int) + 1 = (q : Int) := by have := HQ.out; simp at this; omega
      have hw5 : IntKind.u64.wrap (q : Int) = (q : Int) := by rw [IntKind.wrap_u64]; omega
      have hw6 : IntKind.i64.wrap (q : Int) = (q : Int) := IntWalk.i64_in _ (by omega)
      clear HQ
      go_wp2_with fail
      apply wp_region_effT _ _ (Inv.start0 w1 fun _ => False) (hm := by kernel_rfl)
      case h =>
        (apply SeqF.pure; (focus (first | rfl | (go_simp; done) | (simp [Region.wanted, yielded]; done))); (focus (intro w; go_simp; with_reducible rfl)); go_simp)
        apply SeqF.read (v := .int .u64 id) []
        · (first | rfl | (go_simp; done) | (simp [Region.wanted, yielded]; done))
        · intro γ' W hg hI
          have x0 : W.cell? ⟨B, 0, none⟩ = some (.int .u64 id) := (cell_of_row _ _ _ _ _ _ ((hI.far B (lt_of_heap HB1.out) (fun h => h)).trans HB1.out)).trans rfl
          go_simp
        go_simp
        apply SeqF.callNew [] 1 5 1 X1.length (X1.map (Value.int .u8)) 31 #[.int .u64 id]
        · (first | rfl | (go_simp; done) | (simp [Region.wanted, yielded]; done))
        · intro w; kernel_rfl
        · exact fun γ' U _ hI => HU1.out U
        intro v1 x1 hv1 hn1
        obtain rfl := hv1.val (by decide)
        obtain ⟨A1, c1, hf1⟩ := hv1.form
        have HF1 := Lib.hid hf1
        clear hf1
        go_simp
        (apply SeqF.pure; (focus (first | rfl | (go_simp; done) | (simp [Region.wanted, yielded]; done))); (focus (intro w; go_simp; with_reducible rfl)); go_simp)
        apply SeqF.callNew [] 2 5 1 X2.length (X2.map (Value.int .u8)) 31 #[.int .u64 q]
        · (first | rfl | (go_simp; done) | (simp [Region.wanted, yielded]; done))
        · intro w; kernel_rfl
        · exact fun γ' U _ hI => HU2.out U
        intro v2 x2 hv2 hn2
        obtain rfl := hv2.val (by decide)
        obtain ⟨A2, c2, hf2⟩ := hv2.form
        have HF2 := Lib.hid hf2
        clear hf2
        go_simp
        apply SeqF.appB [1, 2] 1 (by simp) (.tmp 18) (.tmp 20) rfl rfl (rowVal 1 X1.length x1) (rowVal 1 X2.length x2) X1 X2 Y (by rw [Gh.set_far _ _ (by decide), Gh.set_here]; exact hv1) rfl rfl
        · exact fun γ' W hg hI => hv2.bb hI ((hg 2 (by simp)).trans (Gh.set_here _ _ _)) HOK2.out.1 (by have := HOK2.out; omega)
        · have := HOK1.out; have := HOK2.out; omega
        · exact HY.out.1
        intro v3 x3 hv3 hn3
        obtain rfl := hv3.val (by decide)
        go_simp
        (apply SeqF.pure; (focus (first | rfl | (go_simp; done) | (simp [Region.wanted, yielded]; done))); (focus (intro w; go_simp; with_reducible rfl)); go_simp)
        apply SeqF.read (v := v) []
        · (first | rfl | (go_simp; done) | (simp [Region.wanted, yielded]; done))
        · intro γ' W hg hI
          have x0 : W.cell? ⟨B, 3, none⟩ = some v := (cell_of_row _ _ _ _ _ _ ((hI.far B (lt_of_heap HB1.out) (fun h => h)).trans HB1.out)).trans rfl
          rw [HV9.out] at x0 ⊢
          go_simp
        go_simp
        apply SeqF.appB [1] 1 (by simp) (.tmp 21) (.tmp 23) rfl rfl (rowVal 1 Y.length x3) v Y bs Z (by rw [Gh.set_here]; exact hv3) rfl rfl
        · exact fun γ' W hg hI => HV1.out.inv hI (fun _ _ _ h => h)
        · have := HZ.out; omega
        · exact HY.out.2
        intro vr xr hvr hn4
        obtain rfl := hvr.val (by decide)
        have hnr : ∀ g o, xr = some (g, o) → w1.heap.size ≤ g := fun g o e => by
          rcases hn4 g o e with ⟨o', h⟩ | h
          · rw [Gh.set_here] at h
            rcases hn3 g o' h with ⟨o'', h⟩ | h
            · rw [Gh.set_far _ _ (by decide), Gh.set_here] at h
              exact hn1 g o'' h
            · exact h
          · exact h
        go_simp
        apply SeqF.dyn [1] (fun γ => rowVal 1 Z.length (γ 1))
        · intro γ' hg; simp only [hg 1 (by simp)]
        · (first | rfl | (go_simp; done) | (simp [Region.wanted, yielded]; done))
        · intro γ' V hg hI
          simp only [Gh.set_here]
          go_simp
        simp only [Gh.set_here]
        (apply SeqF.pure; (focus (first | rfl | (go_simp; done) | (simp [Region.wanted, yielded]; done))); (focus (intro w; go_simp; with_reducible rfl)); go_simp)
        apply SeqF.done
        intro w9 hI9
        have HO9 : Hid (OwB w9 w1.heap.size (rowVal 1 Z.length xr) Z) := Lib.hid (hvr.owns fun g o hgo => ⟨hnr g o hgo, (hI9.here 1 g o (by rw [Gh.set_here]; exact hgo)).1⟩)
        have HL9 := Lib.hid (hI9.belowS HL1.out (by have := lt_of_heap HB1.out; omega) (fun _ h => h.elim))
        have hszB := lt_of_heap HB1.out
        clear hI9 hn3 hn4 hv3 hvr hnr hv1 hn1 hv2 hn2
        generalize rowVal 1 Z.length xr = vr at *
        go_simp
        go_wp2_with fail
        refine bodyPost_ret (v := .tuple #[vr, .int .i64 0]) (by simp [results, Try.results15, go_sem]) rfl ⟨⟨vr, rfl, ?_⟩, by (try rw [hB]); exact HL9.out⟩
        show OwB w9 _ vr (writeF id (m : Int).toNat true bs)
        rw [Int.toNat_natCast, HWF.out]
        exact HO9.out.mono (by omega)
      case hl => rfl
      case ho => kernel_rfl
end Go.Proofs.Ytnhhibdkojgnlaa
