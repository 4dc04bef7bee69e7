/- What is proved: what Text and Write of the reference answer when they are called; conditions: the numbers are of their kind, the slice reads as it is said to. -/
import Derived.Test.YtclnohifgjjngaaWireL
import Derived.Test.YtclnohifgjjngaaGrow
set_option linter.unusedSimpArgs false
set_option linter.unusedVariables false
namespace Go.Proofs.Ytclnohifgjjngaa
open Go.RowKit
set_option maxRecDepth 100000
set_option maxHeartbeats 8000000
theorem OwX.bb {w0 W : World} {S : Nat → Prop} {γ : Gh} {v : Value} {xs : List Int} {t : Nat} {x : Option (Nat × Obj)} (h : OwX 5 1 v x xs.length (xs.map (Value.int .u8))) (hI : Inv w0 S γ W) (hx : γ t = x) (hok : okB xs) (hl : xs.length ≤ 140737488355328) : BB W v xs :=
  OwB.rd (base := 0) (h.owns fun g o hgo => ⟨Nat.zero_le _, (hI.here t g o (hx.trans hgo)).1⟩) hok hl
theorem text_any (v : Value) (d : List Int) (w : World) (h : BB w v d) (hl : d.length ≤ 1048576) :
    Calls Try.prog 32 #[v] w fun e w' => (∃ u, e = .returned u ∧ OwB w' w.heap.size u (uintB d.length ++ d)) ∧ Below w.heap.size w w' := by
  have HD := Lib.hid h
  obtain ⟨hok, hlen, A, cap, rfl, hr, hnc, hlc, hcm⟩ := h
  clear hok hr
  have hwn : IntKind.u64.wrap (d.length : Int) = (d.length : Int) := by rw [IntKind.wrap_u64]; omega
  have hul := uintB_len d.length
  go_enter Try.func32, Try.ntmps32
  go_wp2_with fail
  refine (ruint_any d.length w (by omega)).mono ?_
  rintro e w1 ⟨⟨u, rfl, ho⟩, hb⟩
  have HO := Lib.hid ho
  have HB := Lib.hid hb
  clear ho hb
  go_wp2_with (at_builtin; refine wpList_appB (base := w.heap.size) rfl _ _ rfl u (.slice A d.length cap) (uintB d.length) d rfl ?_ rfl ?_ ?_ ?_ ?_)
  · exact HO.out
  · exact HD.out.below HB.out
  · omega
  · exact HB.out.size
  · intro v' w' h1 h2 h3
    have HO2 := Lib.hid h1
    have HB2 := Lib.hid (HB.out.grown h2 HB.out.size (fun q hq => (World.ownsRow.lt HO.out q hq).1))
    clear h1 h2 h3
    go_wp2_with fail
    go_ret
    exact ⟨⟨v', rfl, HO2.out⟩, HB2.out⟩
theorem rwrite_any (o n a t : Nat) (v : Value) (d : List Int) (w : World) (h : BB w v d) (ho : o < 18446744073709551616) (hn : n < 18446744073709551616) (ha : a < 18446744073709551616) (ht : t < 18446744073709551616) :
    Calls Try.prog 16 #[.agg #[.int .u64 o, .int .u64 n, .int .u64 a, .int .u64 t, v]] w fun e w' =>
      (∃ u, e = .returned (.tuple #[u, .int .i64 (if 65536 < d.length then 2 else 0 : Nat)]) ∧ OwB w' w.heap.size u (if 65536 < d.length then [] else writeS o n a t d)) ∧ Below w.heap.size w w' := by
  have hd0 := h
  obtain ⟨hok, hlen, A, cap, rfl, hr, hnc, hlc, hcm⟩ := h
  obtain ⟨B, hB⟩ : ∃ B, w.heap.size = B := ⟨_, rfl⟩
  obtain ⟨dl, hdl⟩ : ∃ l, d.length = l := ⟨_, rfl⟩
  rw [hdl] at hd0 hlen hlc ⊢
  obtain ⟨V, hV⟩ : ∃ V, w.alloc (.cells #[.int .u64 o, .int .u64 n, .int .u64 a, .int .u64 t, .slice A dl cap] 34) = V := ⟨_, rfl⟩
  have HL0 : Hid (Below B w V) := Lib.hid (by rw [← hV, ← hB]; (repeat' (first | (with_reducible exact Below.refl _ _) | (with_reducible assumption) | (with_reducible refine Below.alloc ?_ ?_ _) | (with_reducible refine below_setRow ?_ ?_ _) | (with_reducible refine bl_drew ?_) | (with_reducible refine bl_drewN ?_ _) | (with_reducible refine Below.setCell ?_ ?_ _) | (with_reducible refine bl_then ?_ ?_ hb) | (with_reducible refine bl_then ?_ ?_ hb1) | (with_reducible refine bl_then ?_ ?_ hb2) | (with_reducible refine bl_then ?_ ?_ hb3) | (with_reducible refine bl_then ?_ ?_ hb4) | (with_reducible refine bl_then ?_ ?_ hb5) | (with_reducible refine bl_then ?_ ?_ hb6) | (with_reducible refine bl_then ?_ ?_ hb7) | (with_reducible refine bl_then ?_ ?_ hb8) | (with_reducible exact Nat.le_refl _) | omega | (simp only [World.size_alloc, World.size_setCell, World.size_drew, size_setRow]; omega) | (simp; omega) | (simp; done))))
  have HB0 : Hid (V.heap[B]? = some (.cells #[.int .u64 o, .int .u64 n, .int .u64 a, .int .u64 t, .slice A dl cap] 34 (0, 0))) := Lib.hid (by rw [← hV, ← hB]; exact heap_alloc_last _ _)
  have HV := Lib.hid (hd0.below (by rw [hB]; exact HL0.out))
  have HDL := Lib.hid hdl
  clear hok hr hd0 hdl
  by_cases hbig : 65536 < dl
  · rw [if_pos hbig, if_pos hbig]
    have hbi : (65536 : Int) < (dl : Int) := by omega
    have b4 : V.cell? ⟨B, 4, none⟩ = some (.slice A dl cap) := (cell_of_row _ _ _ _ _ _ HB0.out).trans rfl
    go_enter Try.func16, Try.ntmps16
    go_wp2_with fail
    refine bodyPost_ret (v := .tuple #[.slice none 0 0, .int .i64 2]) (by simp [results, Try.results16, go_sem]) rfl ?_
    exact ⟨⟨_, rfl, OwB.nil _ _⟩, by (try rw [hB]); exact HL0.out⟩
  · rw [if_neg hbig, if_neg hbig]
    have hbi : ¬ (65536 : Int) < (dl : Int) := by omega
    have b4 : V.cell? ⟨B, 4, none⟩ = some (.slice A dl cap) := (cell_of_row _ _ _ _ _ _ HB0.out).trans rfl
    obtain ⟨X1, hX1⟩ : ∃ x, uintB o = x := ⟨_, rfl⟩
    obtain ⟨X2, hX2⟩ : ∃ x, uintB n = x := ⟨_, rfl⟩
    obtain ⟨X3, hX3⟩ : ∃ x, uintB a = x := ⟨_, rfl⟩
    obtain ⟨X4, hX4⟩ : ∃ x, uintB t = x := ⟨_, rfl⟩
    obtain ⟨X5, hX5⟩ : ∃ x, uintB dl ++ d = x := ⟨_, rfl⟩
    have HK : Hid ((okB X1 ∧ okB X2 ∧ okB X3 ∧ okB X4) ∧ X1.length ≤ 11 ∧ X2.length ≤ 11 ∧ X3.length ≤ 11 ∧ X4.length ≤ 11) := Lib.hid (by
      rw [← hX1, ← hX2, ← hX3, ← hX4]
      exact ⟨⟨uintB_ok ho, uintB_ok hn, uintB_ok ha, uintB_ok ht⟩, uintB_len _, uintB_len _, uintB_len _, uintB_len _⟩)
    have HU1 : Hid (∀ W, Calls Try.prog 13 #[.int .u64 o] W fun e w' => (∃ v, e = .returned v ∧ OwB w' W.heap.size v X1) ∧ Below W.heap.size W w') := Lib.hid (fun W => by rw [← hX1]; exact ruint_any o W ho)
    have HU2 : Hid (∀ W, Calls Try.prog 13 #[.int .u64 n] W fun e w' => (∃ v, e = .returned v ∧ OwB w' W.heap.size v X2) ∧ Below W.heap.size W w') := Lib.hid (fun W => by rw [← hX2]; exact ruint_any n W hn)
    have HU3 : Hid (∀ W, Calls Try.prog 13 #[.int .u64 a] W fun e w' => (∃ v, e = .returned v ∧ OwB w' W.heap.size v X3) ∧ Below W.heap.size W w') := Lib.hid (fun W => by rw [← hX3]; exact ruint_any a W ha)
    have HU4 : Hid (∀ W, Calls Try.prog 13 #[.int .u64 t] W fun e w' => (∃ v, e = .returned v ∧ OwB w' W.heap.size v X4) ∧ Below W.heap.size W w') := Lib.hid (fun W => by rw [← hX4]; exact ruint_any t W ht)
    have HT : Hid (∀ W, BB W (.slice A dl cap) d → Calls Try.prog 32 #[.slice A dl cap] W fun e w' => (∃ u, e = .returned u ∧ OwB w' W.heap.size u X5) ∧ Below W.heap.size W w') := Lib.hid (fun W hW => by have := text_any _ d W hW (by rw [HDL.out]; omega); rw [HDL.out, hX5] at this; exact this)
    obtain ⟨Y2, hY2⟩ : ∃ Y, X1 ++ X2 = Y := ⟨_, rfl⟩
    obtain ⟨Y3, hY3⟩ : ∃ Y, Y2 ++ X3 = Y := ⟨_, rfl⟩
    obtain ⟨Y4, hY4⟩ : ∃ Y, Y3 ++ X4 = Y := ⟨_, rfl⟩
    have HWF : Hid (writeS o n a t d = Y4 ++ X5) := Lib.hid (by
      rw [← hY4, ← hY3, ← hY2, ← hX1, ← hX2, ← hX3, ← hX4, ← hX5, ← HDL.out]
      simp [writeS, pre5])
    have HY : Hid (X1 ++ X2 = Y2 ∧ Y2 ++ X3 = Y3 ∧ Y3 ++ X4 = Y4 ∧ okB X5 ∧ X5.length ≤ 65600 ∧ Y2.length ≤ 22 ∧ Y3.length ≤ 33 ∧ Y4.length ≤ 44) := Lib.hid (by
      have h1 := HK.out
      refine ⟨hY2, hY3, hY4, by rw [← hX5]; exact (uintB_ok (by omega)).app HV.out.ok, by rw [← hX5, List.length_append, HDL.out]; have := uintB_len dl; omega, ?_, ?_, ?_⟩
      · rw [← hY2]; simp; omega
      · rw [← hY3, ← hY2]; simp; omega
      · rw [← hY4, ← hY3, ← hY2]; simp; omega)
    clear hX1 hX2 hX3 hX4 hX5 hY2 hY3 hY4
    go_enter Try.func16, Try.ntmps16
    go_wp2_with fail
    apply wp_region_effT _ _ (Inv.start0 V fun _ => False) (hm := by kernel_rfl)
    case h =>
      (apply SeqF.pure; (focus (first | rfl | (go_simp; done) | (simp [Region.wanted, yielded]; done))); (focus (intro w; go_simp; with_reducible rfl)); go_simp)
      (apply SeqF.read (v := .int .u64 o) []; (focus (first | rfl | (go_simp; done) | (simp [Region.wanted, yielded]; done))); (focus (intro γ' W hg hI; have x0 : W.cell? ⟨B, 0, none⟩ = some (.int .u64 o) := (cell_of_row _ _ _ _ _ _ ((hI.far B (lt_of_heap HB0.out) (fun h => h)).trans HB0.out)).trans rfl; go_simp)); go_simp)
      apply SeqF.callNew [] 1 5 1 X1.length (X1.map (Value.int .u8)) 13 #[.int .u64 o]
      · (first | rfl | (go_simp; done) | (simp [Region.wanted, yielded]; done))
      · intro w; kernel_rfl
      · exact fun γ' U _ hI => HU1.out U
      intro v1 x1 hv1 hn1
      obtain rfl := hv1.val (by decide)
      obtain ⟨A1, c1, hf1⟩ := hv1.form
      have HF1 := Lib.hid hf1
      clear hf1
      go_simp
      (apply SeqF.pure; (focus (first | rfl | (go_simp; done) | (simp [Region.wanted, yielded]; done))); (focus (intro w; go_simp; with_reducible rfl)); go_simp)
      (apply SeqF.read (v := .int .u64 n) []; (focus (first | rfl | (go_simp; done) | (simp [Region.wanted, yielded]; done))); (focus (intro γ' W hg hI; have x0 : W.cell? ⟨B, 1, none⟩ = some (.int .u64 n) := (cell_of_row _ _ _ _ _ _ ((hI.far B (lt_of_heap HB0.out) (fun h => h)).trans HB0.out)).trans rfl; go_simp)); go_simp)
      apply SeqF.callNew [] 2 5 1 X2.length (X2.map (Value.int .u8)) 13 #[.int .u64 n]
      · (first | rfl | (go_simp; done) | (simp [Region.wanted, yielded]; done))
      · intro w; kernel_rfl
      · exact fun γ' U _ hI => HU2.out U
      intro v2 x2 hv2 hn2
      obtain rfl := hv2.val (by decide)
      obtain ⟨A2, c2, hf2⟩ := hv2.form
      have HF2 := Lib.hid hf2
      clear hf2
      go_simp
      apply SeqF.appB [1, 2] 1 (by simp) (.tmp 11) (.tmp 14) rfl rfl (rowVal 1 X1.length x1) (rowVal 1 X2.length x2) X1 X2 Y2 (by rw [Gh.set_far _ _ (by decide), Gh.set_here]; exact hv1) rfl rfl
      · exact fun γ' W hg hI => hv2.bb hI ((hg 2 (by simp)).trans (Gh.set_here _ _ _)) HK.out.1.2.1 (by have := HK.out; omega)
      · have := HK.out; omega
      · exact HY.out.1
      intro v3 x3 hv3 hn3
      obtain rfl := hv3.val (by decide)
      have hnr : ∀ g o, x3 = some (g, o) → V.heap.size ≤ g := fun g o e => by
        rcases hn3 g o e with ⟨o', h⟩ | h
        · rw [Gh.set_far _ _ (by decide), Gh.set_here] at h
          exact hn1 g o' h
        · exact h
      go_simp
      apply SeqF.dyn [1] (fun γ => rowVal 1 Y2.length (γ 1))
      · intro γ' hg; simp only [hg 1 (by simp)]
      · (first | rfl | (go_simp; done) | (simp [Region.wanted, yielded]; done))
      · intro γ' W hg hI
        simp only [Gh.set_here]
        go_simp
      simp only [Gh.set_here]
      apply SeqF.done
      intro w9 hI9
      have HO9 : Hid (OwB w9 V.heap.size (rowVal 1 Y2.length x3) Y2) := Lib.hid (hv3.owns fun g o hgo => ⟨hnr g o hgo, (hI9.here 1 g o (by rw [Gh.set_here]; exact hgo)).1⟩)
      have HBV := Lib.hid hI9.belowOf
      obtain ⟨A9, c9, e9⟩ := HO9.out.slice
      clear hI9 hn3 hv3 hnr hv1 hn1 hv2 hn2
      generalize rowVal 1 Y2.length x3 = vy at *
      subst e9
      obtain ⟨l2, hl2⟩ : ∃ l, Y2.length = l := ⟨_, rfl⟩
      have HL2 := Lib.hid hl2
      have HB9 : Hid (w9.heap[B]? = some (.cells #[.int .u64 o, .int .u64 n, .int .u64 a, .int .u64 t, .slice A dl cap] 34 (0, 0))) := Lib.hid ((HBV.out.block B (lt_of_heap HB0.out)).trans HB0.out)
      have HBO : Hid (V.heap.size = B + 1) := Lib.hid (by rw [← hV, ← hB]; simp)
      go_simp
      rw [hl2] at HO9
      try rw [hl2]
      clear hl2
      obtain ⟨x, hx, hI0, hxo⟩ := Inv.begins HO9.out
      have HX := Lib.hid hx
      have HXO := Lib.hid hxo
      clear hx hxo
      have hq1 : (fun k => if k = 1 then x else none : Gh) 1 = x := if_pos rfl
      generalize (fun k => if k = 1 then x else none : Gh) = γ0 at hI0 hq1
      have HI0 := Lib.hid hI0
      clear hI0
      have HFAR : Hid (∀ γ' W, Inv w9 (fun g => (Value.slice A9 l2 c9).ownBlock = some g) γ' W → W.heap[B]? = some (.cells #[.int .u64 o, .int .u64 n, .int .u64 a, .int .u64 t, .slice A dl cap] 34 (0, 0))) := Lib.hid (fun γ' W hI => (hI.far B (lt_of_heap HB9.out) (fun h => by have := (World.ownsRow.lt HO9.out B h).1; have := HBO.out; omega)).trans HB9.out)
      go_wp2_with fail
      apply wp_region_effT (Inv w9 (fun g => (Value.slice A9 l2 c9).ownBlock = some g)) γ0 HI0.out (hm := by kernel_rfl)
      case h =>
        (apply SeqF.pure; (focus (first | rfl | (go_simp; done) | (simp [Region.wanted, yielded]; done))); (focus (intro w; go_simp; with_reducible rfl)); go_simp)
        (apply SeqF.pure; (focus (first | rfl | (go_simp; done) | (simp [Region.wanted, yielded]; done))); (focus (intro w; go_simp; with_reducible rfl)); go_simp)
        apply SeqF.read (v := .int .u64 a) []
        · (first | rfl | (go_simp; done) | (simp [Region.wanted, yielded]; done))
        · intro γ' W hg hI
          have x0 : W.cell? ⟨B, 2, none⟩ = some (.int .u64 a) := (cell_of_row _ _ _ _ _ _ (HFAR.out γ' W hI)).trans rfl
          go_simp
        go_simp
        apply SeqF.callNew [] 2 5 1 X3.length (X3.map (Value.int .u8)) 13 #[.int .u64 a]
        · (first | rfl | (go_simp; done) | (simp [Region.wanted, yielded]; done))
        · intro w; kernel_rfl
        · exact fun γ' U _ hI => HU3.out U
        intro v2 x2 hv2 hn2
        obtain rfl := hv2.val (by decide)
        obtain ⟨A2, c2, hf2⟩ := hv2.form
        have HF2 := Lib.hid hf2
        clear hf2
        go_simp
        apply SeqF.appB [1, 2] 1 (by simp) (.tmp 16) (.tmp 19) rfl rfl (.slice A9 l2 c9) (rowVal 1 X3.length x2) Y2 X3 Y3 (by rw [Gh.set_far _ _ (by decide), hq1]; exact HX.out) rfl rfl
        · exact fun γ' W hg hI => hv2.bb hI ((hg 2 (by simp)).trans (Gh.set_here _ _ _)) HK.out.1.2.2.1 (by have := HK.out; omega)
        · have := HK.out; have := HY.out; omega
        · exact HY.out.2.1
        intro v3 x3 hv3 hn3
        obtain rfl := hv3.val (by decide)
        have hnr : ∀ g o, x3 = some (g, o) → (Value.slice A9 l2 c9).ownBlock = some g ∨ w9.heap.size ≤ g := fun g o e => by
          rcases hn3 g o e with ⟨o', h⟩ | h
          · rw [Gh.set_far _ _ (by decide), hq1] at h
            exact .inl (HXO.out g o' h)
          · exact .inr h
        go_simp
        (apply SeqF.pure; (focus (first | rfl | (go_simp; done) | (simp [Region.wanted, yielded]; done))); (focus (intro w; go_simp; with_reducible rfl)); go_simp)
        apply SeqF.read (v := .int .u64 t) []
        · (first | rfl | (go_simp; done) | (simp [Region.wanted, yielded]; done))
        · intro γ' W hg hI
          have x0 : W.cell? ⟨B, 3, none⟩ = some (.int .u64 t) := (cell_of_row _ _ _ _ _ _ (HFAR.out γ' W hI)).trans rfl
          go_simp
        go_simp
        apply SeqF.callNew [] 3 5 1 X4.length (X4.map (Value.int .u8)) 13 #[.int .u64 t]
        · (first | rfl | (go_simp; done) | (simp [Region.wanted, yielded]; done))
        · intro w; kernel_rfl
        · exact fun γ' U _ hI => HU4.out U
        intro v4 x4 hv4 hn4
        obtain rfl := hv4.val (by decide)
        obtain ⟨A4, c4, hf4⟩ := hv4.form
        have HF4 := Lib.hid hf4
        clear hf4
        go_simp
        apply SeqF.appB [1, 3] 1 (by simp) (.tmp 20) (.tmp 23) rfl rfl (rowVal 1 Y3.length x3) (rowVal 1 X4.length x4) Y3 X4 Y4 (by rw [Gh.set_far _ _ (by decide), Gh.set_here]; exact hv3) rfl rfl
        · exact fun γ' W hg hI => hv4.bb hI ((hg 3 (by simp)).trans (Gh.set_here _ _ _)) HK.out.1.2.2.2 (by have := HK.out; omega)
        · have := HK.out; have := HY.out; omega
        · exact HY.out.2.2.1
        intro v5 x5 hv5 hn5
        obtain rfl := hv5.val (by decide)
        have hnr5 : ∀ g o, x5 = some (g, o) → (Value.slice A9 l2 c9).ownBlock = some g ∨ w9.heap.size ≤ g := fun g o e => by
          rcases hn5 g o e with ⟨o', h⟩ | h
          · rw [Gh.set_far _ _ (by decide), Gh.set_here] at h
            exact hnr g o' h
          · exact .inr h
        go_simp
        apply SeqF.dyn [1] (fun γ => rowVal 1 Y4.length (γ 1))
        · intro γ' hg; simp only [hg 1 (by simp)]
        · (first | rfl | (go_simp; done) | (simp [Region.wanted, yielded]; done))
        · intro γ' W hg hI
          simp only [Gh.set_here]
          go_simp
        simp only [Gh.set_here]
        apply SeqF.done
        intro wA hIA
        obtain ⟨hoA, hgA⟩ := hIA.ends (t := 1) (base := V.heap.size) (v' := rowVal 1 Y4.length x5) (ys := Y4) (by rw [Gh.set_here]; exact hv5) (by intro g o hgo; rw [Gh.set_here] at hgo; exact hnr5 g o hgo) HBV.out.size (fun g hg => (World.ownsRow.lt HO9.out g hg).1)
        have HOA := Lib.hid hoA
        have HBA := Lib.hid (HBV.out.grown hgA HBV.out.size (fun q hq => (World.ownsRow.lt HO9.out q hq).1))
        obtain ⟨AA, cA, eA⟩ := hoA.slice
        clear hIA hoA hgA hnr5 hnr hn5 hn3 hn4 hn2 hv2 hv3 hv4 hv5
        generalize rowVal 1 Y4.length x5 = vz at *
        subst eA
        obtain ⟨l4, hl4⟩ : ∃ l, Y4.length = l := ⟨_, rfl⟩
        rw [hl4] at HOA
        try rw [hl4]
        clear hl4
        have HLA := Lib.hid (bl_then HL0.out (by have := HBO.out; omega) HBA.out)
        have HDA := Lib.hid (HV.out.below HBA.out)
        have d4 : wA.cell? ⟨B, 4, none⟩ = some (.slice A dl cap) := (cell_of_row _ _ _ _ _ _ ((HBA.out.block B (lt_of_heap HB0.out)).trans HB0.out)).trans rfl
        have hBlA : B < wA.heap.size := by have := HBA.out.size; have := HBO.out; omega
        go_simp
        go_wp2_with fail
        refine (HT.out wA HDA.out).mono ?_
        rintro e wC ⟨⟨uc, rfl, ho⟩, hb⟩
        obtain ⟨AC, cC, rfl⟩ := ho.slice
        have HOC := Lib.hid ho
        have HBC := Lib.hid hb
        obtain ⟨l5, hl5⟩ : ∃ l, X5.length = l := ⟨_, rfl⟩
        have HL5 := Lib.hid hl5
        rw [hl5] at HOC
        try rw [hl5]
        clear ho hb hl5
        go_wp2_with (at_builtin; refine wpList_appB (base := V.heap.size) rfl _ _ rfl (.slice AA l4 cA) (.slice AC l5 cC) Y4 X5 rfl ?_ rfl ?_ ?_ ?_ ?_)
        · exact HOA.out.below HBC.out
        · exact HOC.out.rd HY.out.2.2.2.1 (by have := HY.out; omega)
        · have := HY.out; omega
        · have := HBA.out.size; have := HBC.out.size; omega
        · intro v' w' h1 h2 h3
          have HO2 := Lib.hid h1
          have HBCC := Lib.hid (bl_then HBA.out HBA.out.size HBC.out)
          have HB2 := Lib.hid (HBCC.out.grown h2 HBCC.out.size (fun q hq => (World.ownsRow.lt (HOA.out.below HBC.out) q hq).1))
          clear h1 h2 h3
          go_wp2_with fail
          refine bodyPost_ret (v := .tuple #[v', .int .i64 0]) (by simp [results, Try.results16, go_sem]) rfl ?_
          refine ⟨⟨v', rfl, ?_⟩, ?_⟩
          · rw [HWF.out]
            exact HO2.out.mono (by have := HBO.out; omega)
          · (try rw [hB])
            exact bl_then HL0.out (by have := HBO.out; omega) HB2.out
      case hl => rfl
      case ho => kernel_rfl
    case hl => rfl
    case ho => kernel_rfl
end Go.Proofs.Ytclnohifgjjngaa
