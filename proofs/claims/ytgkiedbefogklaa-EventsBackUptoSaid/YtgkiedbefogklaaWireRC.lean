/- What is proved: what form of the reference answers for an event that may be; conditions: those typed. -/
import Derived.Test.YtgkiedbefogklaaWireRB
set_option linter.unusedSimpArgs false
set_option linter.unusedVariables false
namespace Go.Proofs.Ytgkiedbefogklaa
open Go.RowKit
set_option maxRecDepth 100000
set_option maxHeartbeats 8000000
theorem OwB.lone (w : World) (k : Int) : OwB (w.alloc (.cells #[.int .u8 k] 5)) w.heap.size (.slice (some ⟨w.heap.size, 0, none⟩) 1 1) [k] :=
  ⟨by simp, .inr ⟨w.heap.size, 1, #[.int .u8 k], rfl, Nat.le_refl _, heap_alloc_last _ _, by simp, by simp [maxLen], by simp, by simp⟩⟩
theorem evS_len {e : Event} (h : mayS e = true) : (evS e).length ≤ 4120 := by
  have h1 := mayS_len h
  have h2 := uintB_len e.cols.toNat
  have h3 := uintB_len e.rows.toNat
  have h4 := uintB_len e.bs.length
  unfold evS tailS
  split
  · simp; omega
  · split
    · simp
    · simp; omega
theorem form_any (e : Event) (v : Value) (w : World) (hv : BB w v e.bs) (hk : e.ok) (hm : mayS e = true) : Calls Try.prog 46 #[.agg (erow ⟨e, v⟩)] w fun r w' => (∃ u, r = .returned u ∧ OwB w' w.heap.size u (evS e)) ∧ Below w.heap.size w w' := by
  obtain ⟨k, bs, c, rr, a⟩ := e
  have HM := Lib.hid (mayS_ok hm)
  have hl := mayS_len hm
  obtain ⟨hk0, _, _, ha0⟩ := hk
  have HES : Hid (evS ⟨k, bs, c, rr, a⟩ = k :: (if k = 2 then uintB c.toNat ++ uintB rr.toNat else if k = 4 then [a] else uintB bs.length ++ bs)) := Lib.hid rfl
  obtain ⟨Z, hZ⟩ : ∃ Z, evS ⟨k, bs, c, rr, a⟩ = Z := ⟨_, rfl⟩
  rw [hZ] at HES ⊢
  clear hZ hm
  unfold erow
  dsimp only at hv hl hk0 ha0 ⊢
  obtain ⟨A, n, cp, hvv⟩ : ∃ A n c, v = .slice A n c := by obtain ⟨_, _, A, c, h, _⟩ := hv; exact ⟨_, _, _, h⟩
  subst hvv
  obtain ⟨B, hB⟩ : ∃ B, w.heap.size = B := ⟨_, rfl⟩
  obtain ⟨Wa, hWa⟩ : ∃ W, w.alloc (.cells #[.int .u8 k, .slice A n cp, .int .i64 c, .int .i64 rr, .int .u8 a] 48) = W := ⟨_, rfl⟩
  have hXa : Wa.heap.size = B + 1 := by rw [← hWa, ← hB]; simp
  obtain ⟨V, hV⟩ : ∃ W, Wa.alloc (.cells #[.int .u8 k] 5) = W := ⟨_, rfl⟩
  have hXV : V.heap.size = B + 2 := by rw [← hV]; simp [hXa]
  have h0 : Below w.heap.size w Wa := by rw [← hWa]; exact Below.alloc (Below.refl _ _) (Nat.le_refl _) _
  have h1 : Below w.heap.size w V := by rw [← hV]; exact Below.alloc h0 h0.size _
  have HBV := Lib.hid h1
  have HVV := Lib.hid (hv.below h1)
  have a0 : Wa.cell? ⟨B, 0, none⟩ = some (.int .u8 k) := by rw [← hWa, ← hB]; exact (cell_of_row _ _ _ _ _ _ (heap_alloc_last _ _)).trans rfl
  have HROW : Hid (V.heap[B]? = some (.cells #[.int .u8 k, .slice A n cp, .int .i64 c, .int .i64 rr, .int .u8 a] 48 (0, 0))) := Lib.hid (by rw [← hV, heap_alloc_old _ _ (by omega), ← hWa, ← hB]; exact heap_alloc_last _ _)
  have HO : Hid (OwB V (B + 1) (.slice (some ⟨B + 1, 0, none⟩) 1 1) [k]) := Lib.hid (by have := OwB.lone Wa k; rw [hV, hXa] at this; exact this)
  have v0 : V.cell? ⟨B, 0, none⟩ = some (.int .u8 k) := (cell_of_row _ _ _ _ _ _ HROW.out).trans rfl
  have v1 : V.cell? ⟨B, 1, none⟩ = some (.slice A n cp) := (cell_of_row _ _ _ _ _ _ HROW.out).trans rfl
  have v4 : V.cell? ⟨B, 4, none⟩ = some (.int .u8 a) := (cell_of_row _ _ _ _ _ _ HROW.out).trans rfl
  have hBl : B < V.heap.size := by omega
  clear h0 h1 hv
  by_cases q2 : k = 2
  · subst q2
    have hcr : (1 ≤ c ∧ c ≤ 512) ∧ 1 ≤ rr ∧ rr ≤ 512 := by have := HM.out; dsimp only at this; omega
    obtain ⟨m, rfl⟩ := Int.eq_ofNat_of_zero_le (show 0 ≤ c by omega)
    obtain ⟨m2, rfl⟩ := Int.eq_ofNat_of_zero_le (show 0 ≤ rr by omega)
    have hw1 : IntKind.u64.wrap (m : Int) = (m : Int) := by rw [IntKind.wrap_u64]; omega
    have hw2 : IntKind.u64.wrap (m2 : Int) = (m2 : Int) := by rw [IntKind.wrap_u64]; omega
    obtain ⟨X1, hX1⟩ : ∃ x, uintB m = x := ⟨_, rfl⟩
    obtain ⟨X2, hX2⟩ : ∃ x, uintB m2 = x := ⟨_, rfl⟩
    have HK : Hid ((okB X1 ∧ okB X2) ∧ X1.length ≤ 11 ∧ X2.length ≤ 11) := Lib.hid (by rw [← hX1, ← hX2]; exact ⟨⟨uintB_ok (by omega), uintB_ok (by omega)⟩, uintB_len _, uintB_len _⟩)
    have HU1 : Hid (∀ W, Calls Try.prog 45 #[.int .u64 m] W fun e w' => (∃ v, e = .returned v ∧ OwB w' W.heap.size v X1) ∧ Below W.heap.size W w') := Lib.hid (fun W => by rw [← hX1]; exact ruint_any m W (by omega))
    have HU2 : Hid (∀ W, Calls Try.prog 45 #[.int .u64 m2] W fun e w' => (∃ v, e = .returned v ∧ OwB w' W.heap.size v X2) ∧ Below W.heap.size W w') := Lib.hid (fun W => by rw [← hX2]; exact ruint_any m2 W (by omega))
    obtain ⟨Y, hY⟩ : ∃ Y, [(2 : Int)] ++ X1 = Y := ⟨_, rfl⟩
    have HY : Hid ([(2 : Int)] ++ X1 = Y ∧ Y ++ X2 = Z ∧ Y.length ≤ 12) := Lib.hid ⟨hY, by rw [HES.out, if_pos rfl, Int.toNat_natCast, Int.toNat_natCast, hX1, hX2, ← hY]; rfl, by rw [← hY]; have := HK.out; simp; omega⟩
    clear hX1 hX2 hY HES HM hcr
    obtain ⟨x, hx, hI0, hxo⟩ := Inv.begins HO.out
    have HX := Lib.hid hx
    have HXO := Lib.hid hxo
    clear hx hxo
    have hq1 : (fun k => if k = 1 then x else none : Gh) 1 = x := if_pos rfl
    generalize (fun k => if k = 1 then x else none : Gh) = γ0 at hI0 hq1
    have HI0 := Lib.hid hI0
    clear hI0
    have HNB : Hid (¬ (Value.slice (some ⟨B + 1, 0, none⟩) 1 1).ownBlock = some B) := Lib.hid (by simp [Value.ownBlock])
    have HFAR : Hid (∀ γ' W, Inv V (fun g => (Value.slice (some ⟨B + 1, 0, none⟩) 1 1).ownBlock = some g) γ' W → W.heap[B]? = some (.cells #[.int .u8 2, .slice A n cp, .int .i64 m, .int .i64 m2, .int .u8 a] 48 (0, 0))) := Lib.hid (fun γ' W hI => (hI.far B hBl (fun h => HNB.out h)).trans HROW.out)
    go_enter Try.func46, Try.ntmps46
    go_wp2_with fail
    try rw [hV]
    apply wp_region_effT (Inv V (fun g => (Value.slice (some ⟨B + 1, 0, none⟩) 1 1).ownBlock = some g)) γ0 HI0.out (hm := by kernel_rfl)
    case h =>
      (apply SeqF.pure; (focus (first | rfl | (go_simp; done) | (simp [Region.wanted, yielded]; done))); (focus (intro w; go_simp; with_reducible rfl)); go_simp)
      (apply SeqF.pure; (focus (first | rfl | (go_simp; done) | (simp [Region.wanted, yielded]; done))); (focus (intro w; go_simp; with_reducible rfl)); go_simp)
      apply SeqF.read (v := .int .i64 m) []
      · (first | rfl | (go_simp; done) | (simp [Region.wanted, yielded]; done))
      · intro γ' W hg hI
        have x0 : W.cell? ⟨B, 2, none⟩ = some (.int .i64 m) := (cell_of_row _ _ _ _ _ _ (HFAR.out γ' W hI)).trans rfl
        go_simp
      go_simp
      (apply SeqF.pure; (focus (first | rfl | (go_simp; done) | (simp [Region.wanted, yielded]; done))); (focus (intro w; go_simp; with_reducible rfl)); go_simp)
      apply SeqF.callNew [] 2 5 1 X1.length (X1.map (Value.int .u8)) 45 #[.int .u64 m]
      · (first | rfl | (go_simp; done) | (simp [Region.wanted, yielded]; done))
      · intro w; kernel_rfl
      · exact fun γ' U _ hI => HU1.out U
      intro u2 x2 hv2 hn2
      obtain rfl := hv2.val (by decide)
      obtain ⟨A2, c2, hf2⟩ := hv2.form
      have HF2 := Lib.hid hf2
      clear hf2
      go_simp
      apply SeqF.appB [1, 2] 1 (by simp) (.tmp 11) (.tmp 15) rfl rfl (.slice (some ⟨B + 1, 0, none⟩) 1 1) (rowVal 1 X1.length x2) [2] X1 Y (by rw [Gh.set_far _ _ (by decide), hq1]; exact HX.out) rfl rfl
      · exact fun γ' W hg hI => hv2.bb hI ((hg 2 (by simp)).trans (Gh.set_here _ _ _)) HK.out.1.1 (by have := HK.out; omega)
      · have := HK.out; simp; omega
      · exact HY.out.1
      intro u3 x3 hv3 hn3
      obtain rfl := hv3.val (by decide)
      have hnr : ∀ g o, x3 = some (g, o) → (Value.slice (some ⟨B + 1, 0, none⟩) 1 1).ownBlock = some g ∨ V.heap.size ≤ g := fun g o e => by
        rcases hn3 g o e with ⟨o', h⟩ | h
        · rw [Gh.set_far _ _ (by decide), hq1] at h
          exact .inl (HXO.out g o' h)
        · exact .inr h
      go_simp
      (apply SeqF.pure; (focus (first | rfl | (go_simp; done) | (simp [Region.wanted, yielded]; done))); (focus (intro w; go_simp; with_reducible rfl)); go_simp)
      apply SeqF.read (v := .int .i64 m2) []
      · (first | rfl | (go_simp; done) | (simp [Region.wanted, yielded]; done))
      · intro γ' W hg hI
        have x0 : W.cell? ⟨B, 3, none⟩ = some (.int .i64 m2) := (cell_of_row _ _ _ _ _ _ (HFAR.out γ' W hI)).trans rfl
        go_simp
      go_simp
      (apply SeqF.pure; (focus (first | rfl | (go_simp; done) | (simp [Region.wanted, yielded]; done))); (focus (intro w; go_simp; with_reducible rfl)); go_simp)
      apply SeqF.callNew [] 3 5 1 X2.length (X2.map (Value.int .u8)) 45 #[.int .u64 m2]
      · (first | rfl | (go_simp; done) | (simp [Region.wanted, yielded]; done))
      · intro w; kernel_rfl
      · exact fun γ' U _ hI => HU2.out U
      intro u4 x4 hv4 hn4
      obtain rfl := hv4.val (by decide)
      obtain ⟨A4, c4, hf4⟩ := hv4.form
      have HF4 := Lib.hid hf4
      clear hf4
      go_simp
      apply SeqF.appB [1, 3] 1 (by simp) (.tmp 16) (.tmp 20) rfl rfl (rowVal 1 Y.length x3) (rowVal 1 X2.length x4) Y X2 Z (by rw [Gh.set_far _ _ (by decide), Gh.set_here]; exact hv3) rfl rfl
      · exact fun γ' W hg hI => hv4.bb hI ((hg 3 (by simp)).trans (Gh.set_here _ _ _)) HK.out.1.2 (by have := HK.out; omega)
      · have := HK.out; have := HY.out; omega
      · exact HY.out.2.1
      intro u5 x5 hv5 hn5
      obtain rfl := hv5.val (by decide)
      have hnr5 : ∀ g o, x5 = some (g, o) → (Value.slice (some ⟨B + 1, 0, none⟩) 1 1).ownBlock = some g ∨ V.heap.size ≤ g := fun g o e => by
        rcases hn5 g o e with ⟨o', h⟩ | h
        · rw [Gh.set_far _ _ (by decide), Gh.set_here] at h
          exact hnr g o' h
        · exact .inr h
      go_simp
      apply SeqF.dyn [1] (fun γ => rowVal 1 Z.length (γ 1))
      · intro γ' hg; simp only [hg 1 (by simp)]
      · (first | rfl | (go_simp; done) | (simp [Region.wanted, yielded]; done))
      · intro γ' W hg hI
        simp only [Gh.set_here]
        go_simp
      simp only [Gh.set_here]
      apply SeqF.done
      intro wA hIA
      obtain ⟨hoA, hgA⟩ := hIA.ends (t := 1) (base := B + 1) (v' := rowVal 1 Z.length x5) (ys := Z) (by rw [Gh.set_here]; exact hv5) (by intro g o hgo; rw [Gh.set_here] at hgo; exact hnr5 g o hgo) (by omega) (fun g hg => (World.ownsRow.lt HO.out g hg).1)
      have HOA := Lib.hid hoA
      have HBA := Lib.hid (HBV.out.grown hgA HBV.out.size (fun q hq => by have := (World.ownsRow.lt HO.out q hq).1; omega))
      obtain ⟨AA, cA, eA⟩ := hoA.slice
      clear hIA hoA hgA hnr5 hnr hn5 hn3 hn4 hn2 hv2 hv3 hv4 hv5
      generalize rowVal 1 Z.length x5 = vz at *
      subst eA
      go_simp
      go_wp2_with fail
      go_ret
      refine ⟨⟨_, rfl, ?_⟩, ?_⟩
      · first | exact HOA.out.mono (by omega)
      · first | exact HBA.out | (rw [← hB]; exact HBA.out)
    case hl => rfl
    case ho => kernel_rfl
  · have b2 : (k == 2) = false := by simpa using q2
    by_cases q4 : k = 4
    · subst q4
      have HZ : Hid ([(4 : Int)] ++ [a] = Z) := Lib.hid (by rw [HES.out, if_neg (by decide), if_pos rfl]; rfl)
      go_enter Try.func46, Try.ntmps46
      go_wp2_with (at_builtin; refine wpList_appB (base := B + 1) rfl _ _ rfl (.slice (some ⟨B + 1, 0, none⟩) 1 1) (.slice (some ⟨B + 2, 0, none⟩) 1 1) [4] [a] rfl ?_ rfl ?_ ?_ ?_ ?_)
      · exact HO.out.below (w1 := V.alloc (.cells #[.int .u8 a] 5)) (Below.alloc (Below.refl _ _) (Nat.le_refl _) _)
      · have h := BB.one V a ha0
        rw [hXV] at h
        exact h
      · intro v' w' h1 h2 h3
        have HO2 := Lib.hid h1
        have hbn : Below V.heap.size V (V.alloc (.cells #[.int .u8 a] 5)) := Below.alloc (Below.refl _ _) (Nat.le_refl _) _
        have HB2 := Lib.hid ((bl_then HBV.out HBV.out.size hbn).grown h2 (bl_then HBV.out HBV.out.size hbn).size (fun q hq => by have := (World.ownsRow.lt HO.out q hq).1; omega))
        clear h1 h2 h3 hbn
        obtain ⟨A9, N9, C9, rfl⟩ := HO2.out.form
        go_wp2_with fail
        go_ret
        refine ⟨⟨_, rfl, ?_⟩, ?_⟩
        · rw [← HZ.out]; exact HO2.out.mono (by omega)
        · first | exact HB2.out | (rw [← hB]; exact HB2.out)
    · have b4 : (k == 4) = false := by simpa using q4
      have HZ : Hid ([k] ++ (uintB bs.length ++ bs) = Z) := Lib.hid (by rw [HES.out, if_neg q2, if_neg q4]; rfl)
      obtain ⟨T, hT⟩ : ∃ T, uintB bs.length ++ bs = T := ⟨_, rfl⟩
      have HTK : Hid (okB T ∧ T.length ≤ 5000) := Lib.hid (by rw [← hT]; exact ⟨(uintB_ok (by omega)).app HVV.out.ok, by rw [List.length_append]; have := uintB_len bs.length; omega⟩)
      have HTX : Hid (Calls Try.prog 57 #[.slice A n cp] V fun e w' => (∃ u, e = .returned u ∧ OwB w' V.heap.size u T) ∧ Below V.heap.size V w') := Lib.hid (by have := text_any _ bs V HVV.out (by omega); rwa [hT] at this)
      rw [hT] at HZ
      clear hT
      go_enter Try.func46, Try.ntmps46
      go_wp2_with fail
      try rw [hV]
      refine HTX.out.mono ?_
      rintro e w2 ⟨⟨u, rfl, ho⟩, hb⟩
      have HO2 := Lib.hid ho
      have HB2 := Lib.hid hb
      obtain ⟨A9, N9, C9, rfl⟩ := ho.form
      clear ho hb
      go_wp2_with (at_builtin; refine wpList_appB (base := B + 1) rfl _ _ rfl (.slice (some ⟨B + 1, 0, none⟩) 1 1) (.slice A9 N9 C9) [k] T rfl ?_ rfl ?_ ?_ ?_ ?_)
      · exact HO.out.below HB2.out
      · exact HO2.out.rd HTK.out.1 (by have := HTK.out; omega)
      · have := HTK.out; simp; omega
      · have := HB2.out.size; omega
      · intro v' w' h1 h2 h3
        have HO3 := Lib.hid h1
        have HB3 := Lib.hid ((bl_then HBV.out HBV.out.size HB2.out).grown h2 (bl_then HBV.out HBV.out.size HB2.out).size (fun q hq => by have := (World.ownsRow.lt HO.out q hq).1; omega))
        clear h1 h2 h3
        obtain ⟨A8, N8, C8, rfl⟩ := HO3.out.form
        go_wp2_with fail
        go_ret
        refine ⟨⟨_, rfl, ?_⟩, ?_⟩
        · rw [← HZ.out]; exact HO3.out.mono (by omega)
        · first | exact HB3.out | (rw [← hB]; exact HB3.out)
end Go.Proofs.Ytgkiedbefogklaa
