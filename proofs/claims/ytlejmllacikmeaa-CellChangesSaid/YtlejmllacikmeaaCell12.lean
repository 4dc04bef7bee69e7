/- What is proved: the law CellChanges answers true; conditions: the styles' flags are eight. -/
import Derived.Test.YtlejmllacikmeaaCell11
set_option linter.unusedSimpArgs false
set_option linter.unusedVariables false
namespace Go.Proofs.Ytlejmllacikmeaa
open Go.RowKit
set_option maxRecDepth 100000
set_option maxHeartbeats 4000000
/-- What lies where while the law compares the two lists. -/
structure LC (w wr : World) (B : Nat) (s t : Sty) (A1 A2 : Option Addr) (n : Nat) (l : List Int) : Prop where
  hA : wr.heap[B]? = some (.cells s.row 23 (0, 0))
  hB : wr.heap[B + 1]? = some (.cells t.row 23 (0, 0))
  hL : Below B w wr
  r1 : RdI wr .i64 A1 n l
  r2 : RdI wr .i64 A2 n l
theorem LC.below {w wr w1 : World} {B : Nat} {s t : Sty} {A1 A2 : Option Addr} {n : Nat} {l : List Int} (h : LC w wr B s t A1 A2 n l) (hb : Below wr.heap.size wr w1) : LC w w1 B s t A1 A2 n l :=
  ⟨(hb.block B (lt_of_heap h.hA)).trans h.hA, (hb.block (B + 1) (lt_of_heap h.hB)).trans h.hB, bl_then h.hL (by have := lt_of_heap h.hA; omega) hb, h.r1.below hb, h.r2.below hb⟩
theorem LC.drew {w wr : World} {B : Nat} {s t : Sty} {A1 A2 : Option Addr} {n : Nat} {l : List Int} (h : LC w wr B s t A1 A2 n l) : LC w wr.drew B s t A1 A2 n l :=
  ⟨h.hA, h.hB, bl_drew h.hL, h.r1, h.r2⟩
theorem changes_any (s t : Sty) (hs : s.b < 256) (ht : t.b < 256) (w : World) : Calls Try.prog 4 #[s.val, t.val] w fun e w' => e = .returned (.bool true) ∧ Below w.heap.size w w' := by
  obtain ⟨l, hl⟩ : ∃ l, chgS s t = l := ⟨_, rfl⟩
  obtain ⟨q, hq⟩ : ∃ q, eqS s t = q := ⟨_, rfl⟩
  obtain ⟨m1, hm1⟩ : ∃ m, maySt s = m := ⟨_, rfl⟩
  obtain ⟨m2, hm2⟩ : ∃ m, maySt t = m := ⟨_, rfl⟩
  have HL : Hid ((if q then [] else if m1 then (if m2 then chgL t else []) else []) = l) := Lib.hid (by rw [← hl, ← hq, ← hm1, ← hm2]; rfl)
  have hlb : (∀ z ∈ l, 0 ≤ z ∧ z ≤ 255) ∧ l.length ≤ 24 := by
    rw [← HL.out]
    split
    · simp
    · split
      · split
        · rename_i h
          have := chgL_b t (hm2.trans h)
          exact ⟨this.1, by omega⟩
        · simp
      · simp
  have heq : ∀ w, (binOp .eql 23 s.val t.val).run Try.prog w = .ok (.bool q) w := fun w => by rw [← hq]; exact eqSty w s t hs ht
  have hgd : ∀ w x y, (eqGuard .eql 23 x y s.val t.val).run Try.prog w = .ok () w := fun w x y => grdSty w .eql x y s t
  have HCH : Hid (∀ W, Calls Try.prog 9 #[s.val, t.val] W fun e w' => (∃ v, e = .returned v ∧ OwI w' W.heap.size v l) ∧ Below W.heap.size W w') := Lib.hid (fun W => by rw [← hl]; exact change_any s t hs ht W)
  have HM1 := Lib.hid hm1
  have HM2 := Lib.hid hm2
  clear hl hq hm1 hm2
  obtain ⟨n, hn⟩ : ∃ n, l.length = n := ⟨_, rfl⟩
  have hn24 : n ≤ 24 := by rw [← hn]; exact hlb.2
  have HLB := Lib.hid hlb.1
  have HLN := Lib.hid hn
  clear hlb hn
  obtain ⟨B, hB⟩ : ∃ B, w.heap.size = B := ⟨_, rfl⟩
  obtain ⟨V, hV⟩ : ∃ V, (w.alloc (.cells s.row 23)).alloc (.cells t.row 23) = V := ⟨_, rfl⟩
  have h0 : LC w V B s t none none 0 [] := by
    refine ⟨?_, ?_, ?_, RdI.nil, RdI.nil⟩
    · rw [← hV, ← hB]; (simp only [heap_setRow_if, heap_alloc_if, heap_setCell_if, World.size_alloc, size_setRow, World.size_setCell]; simp) <;> (intros; omega)
    · rw [← hV, ← hB]; (simp only [heap_setRow_if, heap_alloc_if, heap_setCell_if, World.size_alloc, size_setRow, World.size_setCell]; simp) <;> (intros; omega)
    · rw [← hV, ← hB]; (repeat' (first | (with_reducible exact Below.refl _ _) | (with_reducible assumption) | (with_reducible refine Below.alloc ?_ ?_ _) | (with_reducible refine below_setRow ?_ ?_ _) | (with_reducible refine bl_drew ?_) | (with_reducible refine bl_drewN ?_ _) | (with_reducible refine Below.setCell ?_ ?_ _) | (with_reducible refine bl_then ?_ ?_ hb) | (with_reducible refine bl_then ?_ ?_ hb1) | (with_reducible refine bl_then ?_ ?_ hb2) | (with_reducible refine bl_then ?_ ?_ hb3) | (with_reducible refine bl_then ?_ ?_ hb4) | (with_reducible refine bl_then ?_ ?_ hb5) | (with_reducible refine bl_then ?_ ?_ hb6) | (with_reducible refine bl_then ?_ ?_ hb7) | (with_reducible refine bl_then ?_ ?_ hb8) | (with_reducible exact Nat.le_refl _) | omega | (simp only [World.size_alloc, World.size_setCell, World.size_drew, size_setRow]; omega) | (simp; omega) | (simp; done)))
  have e1 : s.val = .agg s.row := rfl
  have e2 : t.val = .agg t.row := rfl
  go_enter Try.func4, Try.ntmps4
  rw [e1, e2]
  clear e1 e2
  go_wp2_with (first | (with_reducible refine wpList_ldS rfl (.tmp 2) rfl rfl h0.hA ?_) | (with_reducible refine wpList_ldS rfl (.tmp 3) rfl rfl h0.hB ?_))
  refine (HCH.out _).mono ?_
  rintro e w1 ⟨⟨u, rfl, ho⟩, hb⟩
  obtain ⟨A1, c1, rfl, hr1, _, hc1, _⟩ := RdI.of_ints HLN.out (by rw [← HLN.out]; exact ho)
  have h1 : LC w w1 B s t A1 A1 n l := ⟨(h0.below hb).hA, (h0.below hb).hB, (h0.below hb).hL, hr1, hr1⟩
  clear hb ho h0 hV hr1
  go_wp2_with (first | (with_reducible refine wpList_ldS rfl (.tmp 2) rfl rfl h1.hA ?_) | (with_reducible refine wpList_ldS rfl (.tmp 3) rfl rfl h1.hB ?_))
  refine (HCH.out _).mono ?_
  rintro e w2 ⟨⟨u, rfl, ho⟩, hb⟩
  obtain ⟨A2, c2, rfl, hr2, _, hc2, _⟩ := RdI.of_ints HLN.out (by rw [← HLN.out]; exact ho)
  have h2 : LC w w2 B s t A1 A2 n l := ⟨(h1.below hb).hA, (h1.below hb).hB, (h1.below hb).hL, (h1.below hb).r1, hr2⟩
  clear hb ho h1 hr2
  have hni : ¬ (24 : Int) < (n : Int) := by omega
  go_wp2_with fail
  go_loopw [7] (fun i wr => ∃ k : Nat, k ≤ n ∧ i = .int .i64 k ∧ LC w wr B s t A1 A2 n l) (fun i _ => n - (intOf i).toNat)
  case atStart => exact ⟨0, by omega, rfl, h2⟩
  case round =>
    clear h2
    obtain ⟨k, hk, rfl, hC⟩ := hrel
    by_cases hkn : k < n
    · have hki : (k : Int) < (n : Int) := by omega
      have hk0 : (0 : Int) ≤ (k : Int) := by omega
      obtain ⟨b1, o1, rfl, hcl1⟩ := hC.r1.2 (by omega)
      obtain ⟨b2, o2, rfl, hcl2⟩ := hC.r2.2 (by omega)
      have d1 := hcl1 k hkn
      have d2 := hcl2 k hkn
      obtain ⟨z, hz⟩ : ∃ z, l.getD k 0 = z := ⟨_, rfl⟩
      rw [hz] at d1 d2
      have hzb : 0 ≤ z ∧ z ≤ 255 := HLB.out z (by rw [← hz, List.getD_eq_getElem?_getD, List.getElem?_eq_getElem (by rw [HLN.out]; exact hkn)]; exact List.getElem_mem _)
      have z1 : ¬ z < 0 := by omega
      have z2 : ¬ 255 < z := by omega
      have HCC := Lib.hid hC
      clear hcl1 hcl2 hz hzb hC
      go_wp2_with fail
      apply wp_region_eff _ _ (Inv.start0 wr fun _ => False) (hm := by kernel_rfl)
      case h =>
        (apply SeqF.pure; (focus (first | rfl | (go_simp; done) | (simp [Region.wanted, yielded]; done))); (focus (intro w; go_simp; with_reducible rfl)); go_simp)
        (apply SeqF.pure; (focus (first | rfl | (go_simp; done) | (simp [Region.wanted, yielded]; done))); (focus (intro w; go_simp; with_reducible rfl)); go_simp)
        (apply SeqF.pure; (focus (first | rfl | (go_simp; done) | (simp [Region.wanted, yielded]; done))); (focus (intro w; go_simp; with_reducible rfl)); go_simp)
        apply SeqF.read (v := .int .i64 z) []
        · (first | rfl | (go_simp; done) | (simp [Region.wanted, yielded]; done))
        · intro γ' W hg hI
          have x0 := ((bcell hI.belowOf).1 b1 (o1 + k) (block_lt_of_cell d1)).trans d1
          go_simp
        go_simp
        (apply SeqF.pure; (focus (first | rfl | (go_simp; done) | (simp [Region.wanted, yielded]; done))); (focus (intro w; go_simp; with_reducible rfl)); go_simp)
        (apply SeqF.pure; (focus (first | rfl | (go_simp; done) | (simp [Region.wanted, yielded]; done))); (focus (intro w; go_simp; with_reducible rfl)); go_simp)
        (apply SeqF.pure; (focus (first | rfl | (go_simp; done) | (simp [Region.wanted, yielded]; done))); (focus (intro w; go_simp; with_reducible rfl)); go_simp)
        apply SeqF.read (v := .int .i64 z) []
        · (first | rfl | (go_simp; done) | (simp [Region.wanted, yielded]; done))
        · intro γ' W hg hI
          have x0 := ((bcell hI.belowOf).1 b2 (o2 + k) (block_lt_of_cell d2)).trans d2
          go_simp
        go_simp
        (apply SeqF.pure; (focus (first | rfl | (go_simp; done) | (simp [Region.wanted, yielded]; done))); (focus (intro w; go_simp; with_reducible rfl)); go_simp)
        (apply SeqF.pure; (focus (first | rfl | (go_simp; done) | (simp [Region.wanted, yielded]; done))); (focus (intro w; go_simp; with_reducible rfl)); go_simp)
        (apply SeqF.pure; (focus (first | rfl | (go_simp; done) | (simp [Region.wanted, yielded]; done))); (focus (intro w; go_simp; with_reducible rfl)); go_simp)
        (apply SeqF.pure; (focus (first | rfl | (go_simp; done) | (simp [Region.wanted, yielded]; done))); (focus (intro w; go_simp; with_reducible rfl)); go_simp)
        (apply SeqF.pure; (focus (first | rfl | (go_simp; done) | (simp [Region.wanted, yielded]; done))); (focus (intro w; go_simp; with_reducible rfl)); go_simp)
        apply SeqF.read (v := .int .i64 z) []
        · (first | rfl | (go_simp; done) | (simp [Region.wanted, yielded]; done))
        · intro γ' W hg hI
          have x0 := ((bcell hI.belowOf).1 b1 (o1 + k) (block_lt_of_cell d1)).trans d1
          go_simp
        go_simp
        (apply SeqF.pure; (focus (first | rfl | (go_simp; done) | (simp [Region.wanted, yielded]; done))); (focus (intro w; go_simp; with_reducible rfl)); go_simp)
        (apply SeqF.pure; (focus (first | rfl | (go_simp; done) | (simp [Region.wanted, yielded]; done))); (focus (intro w; go_simp; with_reducible rfl)); go_simp)
        (apply SeqF.pure; (focus (first | rfl | (go_simp; done) | (simp [Region.wanted, yielded]; done))); (focus (intro w; go_simp; with_reducible rfl)); go_simp)
        (apply SeqF.pure; (focus (first | rfl | (go_simp; done) | (simp [Region.wanted, yielded]; done))); (focus (intro w; go_simp; with_reducible rfl)); go_simp)
        (apply SeqF.pure; (focus (first | rfl | (go_simp; done) | (simp [Region.wanted, yielded]; done))); (focus (intro w; go_simp; with_reducible rfl)); go_simp)
        (apply SeqF.pure; (focus (first | rfl | (go_simp; done) | (simp [Region.wanted, yielded]; done))); (focus (intro w; go_simp; with_reducible rfl)); go_simp)
        apply SeqF.read (v := .int .i64 z) []
        · (first | rfl | (go_simp; done) | (simp [Region.wanted, yielded]; done))
        · intro γ' W hg hI
          have x0 := ((bcell hI.belowOf).1 b1 (o1 + k) (block_lt_of_cell d1)).trans d1
          go_simp
        go_simp
        (apply SeqF.pure; (focus (first | rfl | (go_simp; done) | (simp [Region.wanted, yielded]; done))); (focus (intro w; go_simp; with_reducible rfl)); go_simp)
        (apply SeqF.pure; (focus (first | rfl | (go_simp; done) | (simp [Region.wanted, yielded]; done))); (focus (intro w; go_simp; with_reducible rfl)); go_simp)
        apply SeqF.done
        intro w9 hI9
        have hC9 := HCC.out.below hI9.belowOf
        clear hI9 HCC
        go_simp
        go_wp2_with fail
        go_roundw
        case rel =>
          first
            | exact ⟨k + 1, by omega, by go_num, hC9⟩
            | ((repeat apply Exists.intro); refine ⟨?_, rfl⟩; exact ⟨k + 1, by omega, by go_num, hC9⟩)
        case measure => first | (simp [intOf]; done) | (simp [intOf]; omega)
      case hl => rfl
      case ho => kernel_rfl
    · have hki : ¬ (k : Int) < (n : Int) := by omega
      go_wp2_with (first | (with_reducible refine wpList_ldS rfl (.tmp 2) rfl rfl hC.hA ?_) | (with_reducible refine wpList_ldS rfl (.tmp 3) rfl rfl hC.hB ?_))
      refine (rmaystyle_any s _).mono ?_
      rintro e w3 ⟨rfl, hb⟩
      have hD := hC.below hb
      rw [HM1.out]
      clear hb hC
      cases m1
      · obtain rfl : n = 0 := by
          rw [← HLN.out, ← HL.out]
          cases q <;> rfl
        go_wp2_with fail
        (refine (anchored_any _).mono ?_; rintro e w9 ⟨rfl, hb⟩; have hE9 := hD.below hb; clear hb; go_wp2_with fail; go_ret; exact ⟨rfl, by (try rw [hB]); exact hE9.hL⟩)
      · go_wp2_with (first | (with_reducible refine wpList_ldS rfl (.tmp 2) rfl rfl hD.hA ?_) | (with_reducible refine wpList_ldS rfl (.tmp 3) rfl rfl hD.hB ?_) | (with_reducible refine wpList_ldSh ?_ (.tmp 2) rfl rfl hD.hA ?_; (focus (first | rfl | (simp [Region.wanted, yielded, Act.put]; done)))) | (with_reducible refine wpList_ldSh ?_ (.tmp 3) rfl rfl hD.hB ?_; (focus (first | rfl | (simp [Region.wanted, yielded, Act.put]; done)))))
        refine (rmaystyle_any t _).mono ?_
        rintro e w4 ⟨rfl, hb⟩
        have hE := hD.below hb
        rw [HM2.out]
        clear hb hD
        cases m2
        · obtain rfl : n = 0 := by
            rw [← HLN.out, ← HL.out]
            cases q <;> rfl
          go_wp2_with fail
          (refine (anchored_any _).mono ?_; rintro e w9 ⟨rfl, hb⟩; have hE9 := hE.below hb; clear hb; go_wp2_with fail; go_ret; exact ⟨rfl, by (try rw [hB]); exact hE9.hL⟩)
        · cases q
          · have hll : chgL t = l := HL.out
            have HAP : Hid (applyS s l = t) := Lib.hid (by rw [← hll]; exact change_makes s t ht HM2.out)
            have hnp : 0 < n := by rw [← HLN.out, ← hll]; exact (chgL_b t HM2.out).2.2
            have hnpi : (0 : Int) < (n : Int) := by omega
            have hqt : ∀ w, (binOp .eql 23 t.val t.val).run Try.prog w = .ok (.bool true) w := fun w => (eqSty w t t ht ht).trans (by rw [(eqS_iff t t).2 rfl])
            have hgt : ∀ w x y, (eqGuard .eql 23 x y t.val t.val).run Try.prog w = .ok () w := fun w x y => grdSty w .eql x y t t
            have HWF : Hid (∀ z ∈ l, (Lit.int .i64 z).wf = true) := Lib.hid (fun z hz => by have := HLB.out z hz; simp [Lit.wf, IntKind.min, IntKind.max, IntKind.bits, IntKind.signed]; omega)
            clear hll
            go_wp2_with (first | (with_reducible refine wpList_ldS rfl (.tmp 2) rfl rfl hE.hA ?_) | (with_reducible refine wpList_ldS rfl (.tmp 3) rfl rfl hE.hB ?_) | (with_reducible refine wpList_ldSh (by first | rfl | (simp [Region.wanted, yielded, Act.put]; done)) (.tmp 2) rfl rfl hE.hA ?_) | (with_reducible refine wpList_ldSh (by first | rfl | (simp [Region.wanted, yielded, Act.put]; done)) (.tmp 3) rfl rfl hE.hB ?_))
            apply wp_region_eff _ _ (Inv.start0 w4 fun _ => False) (hm := by kernel_rfl)
            case h =>
              apply SeqF.call (v := .bool true) [] 8 #[]
              · (first | rfl | (go_simp; done) | (simp [Region.wanted, yielded]; done))
              · intro w; kernel_rfl
              · exact fun γ' U hg hI => (anchored_any U).mono (by rintro e W' ⟨rfl, hb⟩; exact ⟨rfl, hI.below hb⟩)
              go_simp
              (apply SeqF.pure; (focus (first | rfl | (go_simp; done) | (simp [Region.wanted, yielded]; done))); (focus (intro w; go_simp; with_reducible rfl)); go_simp)
              (apply SeqF.pure; (focus (first | rfl | (go_simp; done) | (simp [Region.wanted, yielded]; done))); (focus (intro w; go_simp; with_reducible rfl)); go_simp)
              (apply SeqF.pure; (focus (first | rfl | (go_simp; done) | (simp [Region.wanted, yielded]; done))); (focus (intro w; go_simp; with_reducible rfl)); go_simp)
              (apply SeqF.pure; (focus (first | rfl | (go_simp; done) | (simp [Region.wanted, yielded]; done))); (focus (intro w; go_simp; with_reducible rfl)); go_simp)
              (apply SeqF.pure; (focus (first | rfl | (go_simp; done) | (simp [Region.wanted, yielded]; done))); (focus (intro w; go_simp; with_reducible rfl)); go_simp)
              (apply SeqF.pure; (focus (first | rfl | (go_simp; done) | (simp [Region.wanted, yielded]; done))); (focus (intro w; go_simp; with_reducible rfl)); go_simp)
              apply SeqF.read (v := s.val) []
              · (first | rfl | (go_simp; done) | (simp [Region.wanted, yielded]; done))
              · exact fun γ' U hg hI => exec_load rfl rfl (run_load_sty ((hI.far B (lt_of_heap hE.hA) id).trans hE.hA))
              go_simp
              (apply SeqF.pure; (focus (first | rfl | (go_simp; done) | (simp [Region.wanted, yielded]; done))); (focus (intro w; go_simp; with_reducible rfl)); go_simp)
              apply SeqF.call (v := t.val) [] 7 #[s.val, .slice A1 n c1]
              · (first | rfl | (go_simp; done) | (simp [Region.wanted, yielded]; done))
              · intro w; kernel_rfl
              · exact fun γ' U hg hI => (rapply_any s A1 n c1 l U hs HWF.out (hE.r1.below hI.belowOf) (by omega)).mono (by rintro e W' ⟨rfl, hb⟩; exact ⟨by rw [HAP.out], hI.below hb⟩)
              go_simp
              apply SeqF.read (v := t.val) []
              · (first | rfl | (go_simp; done) | (simp [Region.wanted, yielded]; done))
              · exact fun γ' U hg hI => exec_load rfl rfl (run_load_sty ((hI.far (B + 1) (lt_of_heap hE.hB) id).trans hE.hB))
              go_simp
              (apply SeqF.pure; (focus (first | rfl | (go_simp; done) | (simp [Region.wanted, yielded]; done))); (focus (intro w; go_simp; with_reducible rfl)); go_simp)
              (apply SeqF.pure; (focus (first | rfl | (go_simp; done) | (simp [Region.wanted, yielded]; done))); (focus (intro w; go_simp; with_reducible rfl)); go_simp)
              (apply SeqF.pure; (focus (first | rfl | (go_simp; done) | (simp [Region.wanted, yielded]; done))); (focus (intro w; go_simp; with_reducible rfl)); go_simp)
              apply SeqF.done
              intro w9 hI9
              have HL9 := Lib.hid (hI9.belowS hE.hL (by have := lt_of_heap hE.hA; omega) (by rintro g h; cases h))
              clear hI9
              go_simp
              go_wp2_with fail
              go_ret
              exact ⟨rfl, by (try rw [hB]); exact HL9.out⟩
            case hl => rfl
            case ho => kernel_rfl
          · obtain rfl : n = 0 := by
              rw [← HLN.out, ← HL.out]
              rfl
            go_wp2_with (first | (with_reducible refine wpList_ldS rfl (.tmp 2) rfl rfl hE.hA ?_) | (with_reducible refine wpList_ldS rfl (.tmp 3) rfl rfl hE.hB ?_) | (with_reducible refine wpList_ldSh (by first | rfl | (simp [Region.wanted, yielded, Act.put]; done)) (.tmp 2) rfl rfl hE.hA ?_) | (with_reducible refine wpList_ldSh (by first | rfl | (simp [Region.wanted, yielded, Act.put]; done)) (.tmp 3) rfl rfl hE.hB ?_))
            (refine (anchored_any _).mono ?_; rintro e w9 ⟨rfl, hb⟩; have hE9 := hE.below hb; clear hb; go_wp2_with fail; go_ret; exact ⟨rfl, by (try rw [hB]); exact hE9.hL⟩)
end Go.Proofs.Ytlejmllacikmeaa
