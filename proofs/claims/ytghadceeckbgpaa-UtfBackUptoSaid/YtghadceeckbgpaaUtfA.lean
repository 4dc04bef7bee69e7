/- What is proved: what Same of the reference of utf, the law's anchor and the law UtfDecodes answer when they are called; conditions: the slices read as they are said to, and are not too long. -/
import Derived.Test.YtghadceeckbgpaaUtf9
import Derived.Test.YtghadceeckbgpaaClone
set_option linter.unusedSimpArgs false
set_option linter.unusedVariables false
namespace Go.Proofs.Ytghadceeckbgpaa
open Go.RowKit
set_option maxRecDepth 100000
set_option maxHeartbeats 4000000
theorem same_runes (u v : Value) (xs ys : List Int) (w : World) (h : RR w u xs) (h2 : RR w v ys) : Calls Try.prog 9 #[u, v] w fun e w' => e = .returned (.bool (decide (xs = ys))) ∧ Below w.heap.size w w' := by
  have hlx := h.len
  have hly := h2.len
  obtain ⟨_, _, A, cap, rfl, hr, _⟩ := h
  obtain ⟨_, _, A2, cap2, rfl, hr2, _⟩ := h2
  have HX := Lib.hid hr
  have HY := Lib.hid hr2
  clear hr hr2
  by_cases hl : xs.length = ys.length
  · have HD : Hid (∀ k, k < xs.length → xs.getD k 0 ≠ ys.getD k 0 → decide (xs = ys) = false) := Lib.hid (fun k _ hne => decide_eq_false (fun h => hne (by rw [h])))
    have HE : Hid ((∀ j, j < xs.length → xs.getD j 0 = ys.getD j 0) → decide (xs = ys) = true) := Lib.hid (fun h => decide_eq_true (List.ext_getElem hl (fun i h1 h2 => by
      have := h i h1
      rw [List.getD_eq_getElem?_getD, List.getD_eq_getElem?_getD, List.getElem?_eq_getElem h1, List.getElem?_eq_getElem h2] at this
      simpa using this)))
    rw [← hl] at hly HY ⊢
    go_enter Try.func9, Try.ntmps9
    go_wp2_with fail
    go_loopw [5] (fun i wr => ∃ k : Nat, k ≤ xs.length ∧ i = .int .i64 k ∧ Hid (∀ j, j < k → xs.getD j 0 = ys.getD j 0) ∧ Hid (Below w.heap.size w wr)) (fun i _ => xs.length - (intOf i).toNat)
    case atStart => exact ⟨0, Nat.zero_le _, rfl, Lib.hid (fun j hj => by omega), Lib.hid (Below.refl _ _)⟩
    case round =>
      obtain ⟨k, hk, rfl, HP, HB⟩ := hrel
      by_cases hlt : k < xs.length
      · obtain ⟨b, off, rfl, hc⟩ := HX.out.2 (by omega)
        obtain ⟨b2, off2, rfl, hc2⟩ := HY.out.2 (by omega)
        have hbl := HX.out.lt_ (by omega) rfl
        have hbl2 := HY.out.lt_ (by omega) rfl
        have cx : wr.cell? ⟨b, off + k, none⟩ = some (.int .i32 (xs.getD k 0)) := ((bcell HB.out).1 b _ hbl).trans (hc k hlt)
        have cy : wr.cell? ⟨b2, off2 + k, none⟩ = some (.int .i32 (ys.getD k 0)) := ((bcell HB.out).1 b2 _ hbl2).trans (hc2 k hlt)
        clear hc hc2
        have HDk := Lib.hid (HD.out k hlt)
        by_cases he : xs.getD k 0 = ys.getD k 0
        · have HEk := Lib.hid he
          rw [← he] at cy
          clear he
          obtain ⟨x, hx⟩ : ∃ x, xs.getD k 0 = x := ⟨_, rfl⟩
          rw [hx] at cx cy
          clear hx HDk
          go_wp2_with fail
          go_region
          go_wp2_with fail
          go_roundw
          case rel =>
            refine ⟨k + 1, by omega, by go_num, Lib.hid (fun j hj => ?_), Lib.hid (bl_drew HB.out)⟩
            rcases (by omega : j < k ∨ j = k) with h | rfl
            · exact HP.out j h
            · exact HEk.out
          case measure =>
            simp [intOf]
            omega
        · have HF := Lib.hid (HDk.out he)
          clear HDk
          generalize xs.getD k 0 = x at *
          generalize ys.getD k 0 = y at *
          go_wp2_with fail
          go_region
          go_wp2_with fail
          go_ret
          rw [HF.out]
          exact ⟨rfl, bl_drew HB.out⟩
      · have HF := Lib.hid (HE.out (fun j hj => HP.out j (by omega)))
        have hi : ¬ (k : Int) < (xs.length : Int) := by omega
        go_wp2_with fail
        go_ret
        rw [HF.out]
        exact ⟨rfl, HB.out⟩
  · have HF : Hid (decide (xs = ys) = false) := Lib.hid (decide_eq_false (fun h => hl (by rw [h])))
    have hi : ¬ (xs.length : Int) = (ys.length : Int) := by omega
    clear hl
    go_enter Try.func9, Try.ntmps9
    go_wp2_with fail
    go_ret
    rw [HF.out]
    exact ⟨rfl, Below.refl _ _⟩
theorem RR.lits {w : World} {g n : Nat} {xs : List Int} {cs : Array Value} (h : w.heap[g]? = some (.cells cs 21 (0, 0))) (hcs : cs = (xs.map (Value.int .i32)).toArray) (hn : xs.length = n) (hx : okR xs) (hl : n ≤ 1000) : RR w (.slice (some ⟨g, 0, none⟩) n n) xs := by
  subst hn hcs
  refine ⟨hx, by omega, some ⟨g, 0, none⟩, xs.length, rfl, ⟨rfl, fun _ => ⟨g, 0, rfl, fun j hj => ?_⟩⟩, by simp, Nat.le_refl _, by unfold maxLen; omega⟩
  rw [Nat.zero_add, cell_of_row w g j _ _ (0, 0) h]
  simp [List.getD_eq_getElem?_getD, List.getElem?_eq_getElem hj]
theorem BB.lits {w : World} {g n : Nat} {xs : List Int} {cs : Array Value} (h : w.heap[g]? = some (.cells cs 5 (0, 0))) (hcs : cs = (xs.map (Value.int .u8)).toArray) (hn : xs.length = n) (hx : okB xs) (hl : n ≤ 1000) : BB w (.slice (some ⟨g, 0, none⟩) n n) xs :=
  (OwB.lit (base := 0) h hcs hn hl (Nat.zero_le _)).rd hx (by omega)
theorem decS_okR (bs : List Int) (h : okB bs) : okR (decS bs) := fun c hc => by
  have := decS_ok bs.length bs (Nat.le_refl _) h c hc
  omega
theorem dec_anchor : decS [97, 195, 169, 255, 226, 130] = [97, 233, 65533, 65533] := by decide +kernel
theorem enc_anchor : encS [233, 55296] = [195, 169, 239, 191, 189] := by decide +kernel
theorem anchored_any (w : World) : Calls Try.prog 15 #[] w fun e w' => e = .returned (.bool true) ∧ Below w.heap.size w w' := by
  go_enter Try.func15, Try.ntmps15
  go_wp2_with fail
  refine (decode_any _ [97, 195, 169, 255, 226, 130] _ (BB.lits (heap_alloc_last w _) rfl rfl (by simp [okB]) (by decide)) (by decide)).mono ?_
  rw [dec_anchor]
  rintro e w1 ⟨⟨u1, rfl, ho⟩, hb⟩
  have HO1 := Lib.hid ho
  have HB1 := Lib.hid (bl_then (show Below w.heap.size w (w.alloc _) by (repeat' (first | (with_reducible exact Below.refl _ _) | (with_reducible assumption) | (with_reducible refine Below.alloc ?_ ?_ _) | (with_reducible refine below_setRow ?_ ?_ _) | (with_reducible refine bl_drew ?_) | (with_reducible refine bl_drewN ?_ _) | (with_reducible refine Below.setCell ?_ ?_ _) | (with_reducible refine bl_then ?_ ?_ hb) | (with_reducible refine bl_then ?_ ?_ hb1) | (with_reducible refine bl_then ?_ ?_ hb2) | (with_reducible refine bl_then ?_ ?_ hb3) | (with_reducible refine bl_then ?_ ?_ hb4) | (with_reducible refine bl_then ?_ ?_ hb5) | (with_reducible refine bl_then ?_ ?_ hb6) | (with_reducible refine bl_then ?_ ?_ hb7) | (with_reducible refine bl_then ?_ ?_ hb8) | (with_reducible exact Nat.le_refl _) | omega | (simp only [World.size_alloc, World.size_setCell, World.size_drew, size_setRow]; omega) | (simp; omega) | (simp; done)))) (by simp) hb)
  clear ho hb
  have hz1 := HB1.out.size
  go_wp2_with fail
  refine (same_runes _ _ [97, 233, 65533, 65533] [97, 233, 65533, 65533] _ ((HO1.out.below (show Below w1.heap.size w1 (w1.alloc _) by (repeat' (first | (with_reducible exact Below.refl _ _) | (with_reducible assumption) | (with_reducible refine Below.alloc ?_ ?_ _) | (with_reducible refine below_setRow ?_ ?_ _) | (with_reducible refine bl_drew ?_) | (with_reducible refine bl_drewN ?_ _) | (with_reducible refine Below.setCell ?_ ?_ _) | (with_reducible refine bl_then ?_ ?_ hb) | (with_reducible refine bl_then ?_ ?_ hb1) | (with_reducible refine bl_then ?_ ?_ hb2) | (with_reducible refine bl_then ?_ ?_ hb3) | (with_reducible refine bl_then ?_ ?_ hb4) | (with_reducible refine bl_then ?_ ?_ hb5) | (with_reducible refine bl_then ?_ ?_ hb6) | (with_reducible refine bl_then ?_ ?_ hb7) | (with_reducible refine bl_then ?_ ?_ hb8) | (with_reducible exact Nat.le_refl _) | omega | (simp only [World.size_alloc, World.size_setCell, World.size_drew, size_setRow]; omega) | (simp; omega) | (simp; done))))).rd (by simp [okR]) (by decide)) (RR.lits (heap_alloc_last w1 _) rfl rfl (by simp [okR]) (by decide))).mono ?_
  rintro e w2 ⟨rfl, hb⟩
  have HB2 := Lib.hid (bl_then (bl_then HB1.out HB1.out.size (show Below w1.heap.size w1 (w1.alloc _) by (repeat' (first | (with_reducible exact Below.refl _ _) | (with_reducible assumption) | (with_reducible refine Below.alloc ?_ ?_ _) | (with_reducible refine below_setRow ?_ ?_ _) | (with_reducible refine bl_drew ?_) | (with_reducible refine bl_drewN ?_ _) | (with_reducible refine Below.setCell ?_ ?_ _) | (with_reducible refine bl_then ?_ ?_ hb) | (with_reducible refine bl_then ?_ ?_ hb1) | (with_reducible refine bl_then ?_ ?_ hb2) | (with_reducible refine bl_then ?_ ?_ hb3) | (with_reducible refine bl_then ?_ ?_ hb4) | (with_reducible refine bl_then ?_ ?_ hb5) | (with_reducible refine bl_then ?_ ?_ hb6) | (with_reducible refine bl_then ?_ ?_ hb7) | (with_reducible refine bl_then ?_ ?_ hb8) | (with_reducible exact Nat.le_refl _) | omega | (simp only [World.size_alloc, World.size_setCell, World.size_drew, size_setRow]; omega) | (simp; omega) | (simp; done))))) (by simp; omega) hb)
  clear hb
  simp only [decide_true]
  go_wp2_with fail
  refine (encode_any _ [233, 55296] _ (RR.lits (heap_alloc_last w2 _) rfl rfl (by simp [okR]) (by decide))).mono ?_
  rw [enc_anchor]
  rintro e w3 ⟨⟨u3, rfl, ho⟩, hb⟩
  have HO3 := Lib.hid ho
  have HB3 := Lib.hid (bl_then (bl_then HB2.out HB2.out.size (show Below w2.heap.size w2 (w2.alloc _) by (repeat' (first | (with_reducible exact Below.refl _ _) | (with_reducible assumption) | (with_reducible refine Below.alloc ?_ ?_ _) | (with_reducible refine below_setRow ?_ ?_ _) | (with_reducible refine bl_drew ?_) | (with_reducible refine bl_drewN ?_ _) | (with_reducible refine Below.setCell ?_ ?_ _) | (with_reducible refine bl_then ?_ ?_ hb) | (with_reducible refine bl_then ?_ ?_ hb1) | (with_reducible refine bl_then ?_ ?_ hb2) | (with_reducible refine bl_then ?_ ?_ hb3) | (with_reducible refine bl_then ?_ ?_ hb4) | (with_reducible refine bl_then ?_ ?_ hb5) | (with_reducible refine bl_then ?_ ?_ hb6) | (with_reducible refine bl_then ?_ ?_ hb7) | (with_reducible refine bl_then ?_ ?_ hb8) | (with_reducible exact Nat.le_refl _) | omega | (simp only [World.size_alloc, World.size_setCell, World.size_drew, size_setRow]; omega) | (simp; omega) | (simp; done))))) (by have := HB2.out.size; simp; omega) hb)
  clear ho hb
  have hz3 := HB3.out.size
  go_wp2_with fail
  refine (same_bytes _ _ [195, 169, 239, 191, 189] [195, 169, 239, 191, 189] _ ((HO3.out.below (show Below w3.heap.size w3 (w3.alloc _) by (repeat' (first | (with_reducible exact Below.refl _ _) | (with_reducible assumption) | (with_reducible refine Below.alloc ?_ ?_ _) | (with_reducible refine below_setRow ?_ ?_ _) | (with_reducible refine bl_drew ?_) | (with_reducible refine bl_drewN ?_ _) | (with_reducible refine Below.setCell ?_ ?_ _) | (with_reducible refine bl_then ?_ ?_ hb) | (with_reducible refine bl_then ?_ ?_ hb1) | (with_reducible refine bl_then ?_ ?_ hb2) | (with_reducible refine bl_then ?_ ?_ hb3) | (with_reducible refine bl_then ?_ ?_ hb4) | (with_reducible refine bl_then ?_ ?_ hb5) | (with_reducible refine bl_then ?_ ?_ hb6) | (with_reducible refine bl_then ?_ ?_ hb7) | (with_reducible refine bl_then ?_ ?_ hb8) | (with_reducible exact Nat.le_refl _) | omega | (simp only [World.size_alloc, World.size_setCell, World.size_drew, size_setRow]; omega) | (simp; omega) | (simp; done))))).rd (by simp [okB]) (by decide)) (BB.lits (heap_alloc_last w3 _) rfl rfl (by simp [okB]) (by decide))).mono ?_
  rintro e w4 ⟨rfl, rfl⟩
  simp only [decide_true]
  go_wp2_with fail
  go_ret
  exact ⟨rfl, bl_then HB3.out HB3.out.size (by (repeat' (first | (with_reducible exact Below.refl _ _) | (with_reducible assumption) | (with_reducible refine Below.alloc ?_ ?_ _) | (with_reducible refine below_setRow ?_ ?_ _) | (with_reducible refine bl_drew ?_) | (with_reducible refine bl_drewN ?_ _) | (with_reducible refine Below.setCell ?_ ?_ _) | (with_reducible refine bl_then ?_ ?_ hb) | (with_reducible refine bl_then ?_ ?_ hb1) | (with_reducible refine bl_then ?_ ?_ hb2) | (with_reducible refine bl_then ?_ ?_ hb3) | (with_reducible refine bl_then ?_ ?_ hb4) | (with_reducible refine bl_then ?_ ?_ hb5) | (with_reducible refine bl_then ?_ ?_ hb6) | (with_reducible refine bl_then ?_ ?_ hb7) | (with_reducible refine bl_then ?_ ?_ hb8) | (with_reducible exact Nat.le_refl _) | omega | (simp only [World.size_alloc, World.size_setCell, World.size_drew, size_setRow]; omega) | (simp; omega) | (simp; done))))⟩
theorem decodes_law (vb vl : Value) (bs l : List Int) (w : World) (h : BB w vb bs) (h2 : RR w vl l) (hb45 : bs.length ≤ 35184372088832) : Calls Try.prog 3 #[vb, vl] w fun e w' => e = .returned (.bool true) ∧ Below w.heap.size w w' := by
  have HBB := Lib.hid h
  have HRR := Lib.hid h2
  have hll := h2.len
  have hel := encS_len l
  have hdl := decS_len bs.length bs (Nat.le_refl _)
  have HDO := Lib.hid (decS_okR bs h.ok)
  have HEO := Lib.hid (encS_ok l)
  obtain ⟨hok, _, A, cap, rfl, hr, _⟩ := h2
  have HX := Lib.hid hr
  clear hr hok h
  go_enter Try.func3, Try.ntmps3
  go_wp2_with fail
  go_loopw [5] (fun i wr => ∃ k : Nat, k ≤ l.length ∧ i = .int .i64 k ∧ Hid (Below w.heap.size w wr)) (fun i _ => l.length - (intOf i).toNat)
  case atStart => exact ⟨0, Nat.zero_le _, rfl, Lib.hid (Below.refl _ _)⟩
  case round =>
    obtain ⟨k, hk, rfl, HB⟩ := hrel
    by_cases hlt : k < l.length
    · obtain ⟨b, off, rfl, hc⟩ := HX.out.2 (by omega)
      have hbl := HX.out.lt_ (by omega) rfl
      have cx : wr.cell? ⟨b, off + k, none⟩ = some (.int .i32 (l.getD k 0)) := ((bcell HB.out).1 b _ hbl).trans (hc k hlt)
      clear hc
      have HF : Hid (∀ W γ', Inv wr (fun _ => False) γ' W → W.cell? ⟨b, off + k, none⟩ = some (.int .i32 (l.getD k 0))) := Lib.hid (fun W γ' hI => (World.cell?_of_block (hI.far b (block_lt_of_cell cx) (fun h => h))).trans cx)
      have HM := Lib.hid (fun W => may_any (l.getD k 0) W)
      have HM2 := Lib.hid (fun W => rmay_any (l.getD k 0) W)
      generalize mayC (l.getD k 0) = m at *
      generalize l.getD k 0 = c at *
      go_wp2_with fail
      apply wp_region_eff (Inv wr (fun _ => False)) (fun _ => none) (Inv.self _) (hm := by kernel_rfl)
      case h =>
        (apply SeqF.pure; (focus (first | rfl | (go_simp; done) | (simp [Region.wanted, yielded]; done))); (focus (intro w; go_simp; with_reducible rfl)); go_simp)
        (apply SeqF.pure; (focus (first | rfl | (go_simp; done) | (simp [Region.wanted, yielded]; done))); (focus (intro w; go_simp; with_reducible rfl)); go_simp)
        (apply SeqF.pure; (focus (first | rfl | (go_simp; done) | (simp [Region.wanted, yielded]; done))); (focus (intro w; go_simp; with_reducible rfl)); go_simp)
        (apply SeqF.read []; (focus (first | rfl | (go_simp; done) | (simp [Region.wanted, yielded]; done))); (focus (intro γ' W hg hI; have x0 := HF.out W γ' hI; go_simp; with_reducible rfl)); go_simp)
        (apply SeqF.call (v := .bool m) [] 7 #[.int .i32 c]; (focus (first | rfl | (go_simp; done) | (simp [Region.wanted, yielded]; done))); (focus (intro w; kernel_rfl)); (focus (exact fun γ' W hg hI => (HM.out W).mono (by rintro e W' ⟨rfl, rfl⟩; exact ⟨rfl, hI⟩))); go_simp)
        (apply SeqF.pure; (focus (first | rfl | (go_simp; done) | (simp [Region.wanted, yielded]; done))); (focus (intro w; go_simp; with_reducible rfl)); go_simp)
        (apply SeqF.pure; (focus (first | rfl | (go_simp; done) | (simp [Region.wanted, yielded]; done))); (focus (intro w; go_simp; with_reducible rfl)); go_simp)
        (apply SeqF.pure; (focus (first | rfl | (go_simp; done) | (simp [Region.wanted, yielded]; done))); (focus (intro w; go_simp; with_reducible rfl)); go_simp)
        (apply SeqF.read []; (focus (first | rfl | (go_simp; done) | (simp [Region.wanted, yielded]; done))); (focus (intro γ' W hg hI; have x0 := HF.out W γ' hI; go_simp; with_reducible rfl)); go_simp)
        (apply SeqF.call (v := .bool m) [] 8 #[.int .i32 c]; (focus (first | rfl | (go_simp; done) | (simp [Region.wanted, yielded]; done))); (focus (intro w; kernel_rfl)); (focus (exact fun γ' W hg hI => (HM2.out W).mono (by rintro e W' ⟨rfl, rfl⟩; exact ⟨rfl, hI⟩))); go_simp)
        (apply SeqF.pure; (focus (first | rfl | (go_simp; done) | (simp [Region.wanted, yielded]; done))); (focus (intro w; go_simp; with_reducible rfl)); go_simp)
        apply SeqF.done
        intro w' hI
        have HB1 := Lib.hid (bl_then HB.out HB.out.size hI.belowOf)
        clear hI
        go_simp
        go_wp2_with fail
        go_roundw
        case rel => exact ⟨k + 1, by omega, by go_num, HB1⟩
        case measure =>
          simp [intOf]
          omega
      case hl => rfl
      case ho => kernel_rfl
    · have hi : ¬ (k : Int) < (l.length : Int) := by omega
      have hz := HB.out.size
      go_wp2_with fail
      refine (decode_any _ bs _ (HBB.out.below HB.out) hb45).mono ?_
      rintro e w1 ⟨⟨u1, rfl, ho⟩, hb⟩
      have HO1 := Lib.hid ho
      have HB1 := Lib.hid (bl_then HB.out HB.out.size hb)
      clear ho hb
      go_wp2_with fail
      refine (refdecode_any _ bs _ (HBB.out.below HB1.out) hb45).mono ?_
      rintro e w2 ⟨⟨u2, rfl, ho⟩, hb⟩
      have HO2 := Lib.hid ho
      have HO1b := Lib.hid (HO1.out.below hb)
      have HB2 := Lib.hid (bl_then HB1.out HB1.out.size hb)
      clear ho hb HO1
      go_wp2_with fail
      refine (same_runes _ _ _ _ _ (HO1b.out.rd HDO.out (by omega)) (HO2.out.rd HDO.out (by omega))).mono ?_
      rintro e w3 ⟨rfl, hb⟩
      have HB3 := Lib.hid (bl_then HB2.out HB2.out.size hb)
      clear hb
      simp only [decide_true]
      go_wp2_with fail
      refine (encode_any _ l _ (HRR.out.below HB3.out)).mono ?_
      rintro e w4 ⟨⟨u4, rfl, ho⟩, hb⟩
      have HO4 := Lib.hid ho
      have HB4 := Lib.hid (bl_then HB3.out HB3.out.size hb)
      clear ho hb
      go_wp2_with fail
      refine (refencode_any _ l _ (HRR.out.below HB4.out)).mono ?_
      rintro e w5 ⟨⟨u5, rfl, ho⟩, hb⟩
      have HO5 := Lib.hid ho
      have HO4b := Lib.hid (HO4.out.below hb)
      have HB5 := Lib.hid (bl_then HB4.out HB4.out.size hb)
      clear ho hb HO4
      go_wp2_with fail
      refine (same_bytes _ _ _ _ _ (HO4b.out.rd HEO.out (by omega)) (HO5.out.rd HEO.out (by omega))).mono ?_
      rintro e w6 ⟨rfl, rfl⟩
      simp only [decide_true]
      go_wp2_with fail
      refine (anchored_any _).mono ?_
      rintro e w7 ⟨rfl, hb⟩
      have HB7 := Lib.hid (bl_then HB5.out HB5.out.size hb)
      clear hb
      go_wp2_with fail
      go_ret
      exact ⟨rfl, HB7.out⟩
end Go.Proofs.Ytghadceeckbgpaa
