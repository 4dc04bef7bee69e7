/- What is proved: the law CellStays answers true; conditions: those typed. -/
import Derived.Test.YtlejmllacikmeaaCell16
set_option linter.unusedSimpArgs false
set_option linter.unusedVariables false
namespace Go.Proofs.Ytlejmllacikmeaa
open Go.RowKit
set_option maxRecDepth 100000
set_option maxHeartbeats 8000000
/-- What lies where while the law goes through the characters. -/
structure LS (w wr : World) (B : Nat) (s : Sty) (A : Option Addr) (n : Nat) (L : List Int) : Prop where
  hA : wr.heap[B]? = some (.cells s.row 23 (0, 0))
  hL : Below B w wr
  r : RdI wr .i32 A n L
theorem LS.below {w wr w1 : World} {B : Nat} {s : Sty} {A : Option Addr} {n : Nat} {L : List Int} (h : LS w wr B s A n L) (hb : Below wr.heap.size wr w1) : LS w w1 B s A n L :=
  ⟨(hb.block B (lt_of_heap h.hA)).trans h.hA, bl_then h.hL (by have := lt_of_heap h.hA; omega) hb, h.r.below hb⟩
theorem LS.drew {w wr : World} {B : Nat} {s : Sty} {A : Option Addr} {n : Nat} {L : List Int} (h : LS w wr B s A n L) : LS w wr.drew B s A n L :=
  ⟨h.hA, bl_drew h.hL, h.r⟩
theorem cell_same {w w1 : World} {g o : Nat} (h : w1.heap[g]? = w.heap[g]?) : w1.cell? ⟨g, o, none⟩ = w.cell? ⟨g, o, none⟩ := by simp only [World.cell?, h]
/-- .. and the cell that is marked. -/
structure LY (w wr : World) (B D : Nat) (s : Sty) (A : Option Addr) (n : Nat) (L : List Int) (A2 : Option Addr) (X : List Cel) (y : Cel) : Prop where
  hA : wr.heap[B]? = some (.cells s.row 23 (0, 0))
  hL : Below B w wr
  r : RdI wr .i32 A n L
  hX : RdX wr A2 X
  hD : wr.heap[D]? = some (.cells y.row 36 (0, 0))
  lB : B < D
  rD : ∀ b off, 0 < n → A = some ⟨b, off, none⟩ → b < D
  xD : ∀ b off, 0 < X.length → A2 = some ⟨b, off, none⟩ → b < D
theorem RdX.lt {w : World} {A2 : Option Addr} {X : List Cel} (h : RdX w A2 X) (b off : Nat) (hl : 0 < X.length) (e : A2 = some ⟨b, off, none⟩) : b < w.heap.size := by
  obtain ⟨g, cur, t, h1, h2, h3⟩ := h 0 _ (List.getElem?_eq_getElem hl)
  rw [h1] at e
  simp only [Option.some.injEq, Addr.mk.injEq] at e
  rw [← e.1]
  exact lt_of_heap h2
theorem LY.next {w wr w9 : World} {B D : Nat} {s : Sty} {A : Option Addr} {n : Nat} {L : List Int} {A2 : Option Addr} {X : List Cel} {y y' : Cel} {γ : Gh} (h : LY w wr B D s A n L A2 X y) (hI : Inv wr (fun g => g = D) γ w9) (hγ : γ 0 = some (D, .cells y'.row 36 (0, 0))) : LY w w9 B D s A n L A2 X y' := by
  have hlD := lt_of_heap h.hD
  refine ⟨?_, ?_, ?_, ?_, (hI.here 0 D _ hγ).1, h.lB, h.rD, h.xD⟩
  · exact (hI.far B (lt_of_heap h.hA) (by have := h.lB; omega)).trans h.hA
  · exact hI.belowS h.hL (by have := h.lB; omega) (by rintro g rfl; exact Nat.le_of_lt h.lB)
  · refine ⟨h.r.1, fun hn => ?_⟩
    obtain ⟨b, off, e, hc⟩ := h.r.2 hn
    refine ⟨b, off, e, fun j hj => ?_⟩
    have := h.rD b off hn e
    exact (cell_same (hI.far b (by omega) (by omega))).trans (hc j hj)
  · intro k x hk
    obtain ⟨g, cur, t, h1, h2, h3⟩ := h.hX k x hk
    have hl : 0 < X.length := by have := (List.getElem?_eq_some_iff.1 hk).1; omega
    have := h.xD g 0 hl h1
    exact ⟨g, cur, t, h1, (hI.far g (by omega) (by omega)).trans h2, h3⟩
theorem LY.drew {w wr : World} {B D : Nat} {s : Sty} {A : Option Addr} {n : Nat} {L : List Int} {A2 : Option Addr} {X : List Cel} {y : Cel} (h : LY w wr B D s A n L A2 X y) : LY w wr.drew B D s A n L A2 X y :=
  ⟨h.hA, bl_drew h.hL, h.r, h.hX, h.hD, h.lB, h.rD, h.xD⟩
theorem LY.below {w wr w1 : World} {B D : Nat} {s : Sty} {A : Option Addr} {n : Nat} {L : List Int} {A2 : Option Addr} {X : List Cel} {y : Cel} (h : LY w wr B D s A n L A2 X y) (hb : Below wr.heap.size wr w1) : LY w w1 B D s A n L A2 X y :=
  ⟨(hb.block B (lt_of_heap h.hA)).trans h.hA, bl_then h.hL (by have := lt_of_heap h.hA; omega) hb, h.r.below hb, h.hX.below hb, (hb.block D (lt_of_heap h.hD)).trans h.hD, h.lB, h.rD, h.xD⟩
theorem LY.inv {w wr : World} {B D : Nat} {s : Sty} {A : Option Addr} {n : Nat} {L : List Int} {A2 : Option Addr} {X : List Cel} {y : Cel} (h : LY w wr B D s A n L A2 X y) : Inv wr (fun g => g = D) (gh2 (some (D, .cells y.row 36 (0, 0))) none) wr.drew :=
  Inv.start2 h.hD rfl (by rintro g o h; cases h)
theorem celInfo' (y : Cel) : (Try.prog.info? 36).map (·.size) = some y.row.size := celInfo
theorem run_store_cel {w : World} {g : Nat} {x y : Cel} {t : TypeId} (hg : w.heap[g]? = some (.cells x.row t (0, 0))) : (Instr.storeAt 36 (.pointer (some ⟨g, 0, none⟩)) y.val).run Try.prog w = .ok () (w.setRow g y.row) :=
  run_store_whole Try.prog 36 t _ (celInfo' y) (Cel.one y) w g _ hg rfl
theorem run_load_cel {w : World} {g : Nat} {x : Cel} {t : TypeId} (hg : w.heap[g]? = some (.cells x.row t (0, 0))) : (Instr.loadAt 36 (.pointer (some ⟨g, 0, none⟩))).run Try.prog w = .ok x.val w := run_load_blk (celInfo' x) celRow hg
theorem putS_len (c : Int) (s : Sty) : (putS c s).length ≤ 2 := by
  unfold putS
  split
  · simp
  · split
    · simp
    · simp
theorem stays_any (s : Sty) (A : Option Addr) (n cap : Nat) (L : List Int) (w : World) (hs : s.b < 256) (h : RdI w .i32 A n L) (hcap : n ≤ cap) (hn47 : n ≤ 140737488355328) :
    Calls Try.prog 5 #[s.val, .slice A n cap] w fun e w' => e = .returned (.bool true) ∧ Below w.heap.size w w' := by
  obtain ⟨ms, hms⟩ : ∃ m, maySt s = m := ⟨_, rfl⟩
  have HMB : Hid (ms = true → mayC (blankS s) = true) := Lib.hid (fun h => may_blank s (hms.trans h))
  have HPG : Hid (ms = true → ∀ c, ∀ x ∈ putS c s, goodC x) := Lib.hid (fun h c => put_good c s (hms.trans h))
  have HMS := Lib.hid hms
  clear hms
  obtain ⟨B, hB⟩ : ∃ B, w.heap.size = B := ⟨_, rfl⟩
  obtain ⟨V, hV⟩ : ∃ V, w.alloc (.cells s.row 23) = V := ⟨_, rfl⟩
  have h0 : LS w V B s A n L := by
    refine ⟨?_, ?_, ?_⟩
    · rw [← hV, ← hB]; exact heap_alloc_last _ _
    · rw [← hV, ← hB]; (repeat' (first | (with_reducible exact Below.refl _ _) | (with_reducible assumption) | (with_reducible refine Below.alloc ?_ ?_ _) | (with_reducible refine below_setRow ?_ ?_ _) | (with_reducible refine bl_drew ?_) | (with_reducible refine bl_drewN ?_ _) | (with_reducible refine Below.setCell ?_ ?_ _) | (with_reducible refine bl_then ?_ ?_ hb) | (with_reducible refine bl_then ?_ ?_ hb1) | (with_reducible refine bl_then ?_ ?_ hb2) | (with_reducible refine bl_then ?_ ?_ hb3) | (with_reducible refine bl_then ?_ ?_ hb4) | (with_reducible refine bl_then ?_ ?_ hb5) | (with_reducible refine bl_then ?_ ?_ hb6) | (with_reducible refine bl_then ?_ ?_ hb7) | (with_reducible refine bl_then ?_ ?_ hb8) | (with_reducible exact Nat.le_refl _) | omega | (simp only [World.size_alloc, World.size_setCell, World.size_drew, size_setRow]; omega) | (simp; omega) | (simp; done)))
    · exact h.below (by rw [← hV]; (repeat' (first | (with_reducible exact Below.refl _ _) | (with_reducible assumption) | (with_reducible refine Below.alloc ?_ ?_ _) | (with_reducible refine below_setRow ?_ ?_ _) | (with_reducible refine bl_drew ?_) | (with_reducible refine bl_drewN ?_ _) | (with_reducible refine Below.setCell ?_ ?_ _) | (with_reducible refine bl_then ?_ ?_ hb) | (with_reducible refine bl_then ?_ ?_ hb1) | (with_reducible refine bl_then ?_ ?_ hb2) | (with_reducible refine bl_then ?_ ?_ hb3) | (with_reducible refine bl_then ?_ ?_ hb4) | (with_reducible refine bl_then ?_ ?_ hb5) | (with_reducible refine bl_then ?_ ?_ hb6) | (with_reducible refine bl_then ?_ ?_ hb7) | (with_reducible refine bl_then ?_ ?_ hb8) | (with_reducible exact Nat.le_refl _) | omega | (simp only [World.size_alloc, World.size_setCell, World.size_drew, size_setRow]; omega) | (simp; omega) | (simp; done))))
  clear h
  have e1 : s.val = .agg s.row := rfl
  go_enter Try.func5, Try.ntmps5
  rw [e1]
  clear e1
  go_wp2_with (with_reducible refine wpList_ldS rfl (.tmp 2) rfl rfl h0.hA ?_)
  refine (rmaystyle_any s _).mono ?_
  rintro e w1 ⟨rfl, hb⟩
  have h1 := h0.below hb
  rw [HMS.out]
  clear hb h0 hV
  cases ms
  · go_wp2_with fail
    refine (anchored_any _).mono ?_
    rintro e w2 ⟨rfl, hb⟩
    have h2 := h1.below hb
    clear hb h1
    have e2 : (Sty.mk 0 256 0).val = .agg #[.int .i64 0, .int .i64 256, .bool false, .bool false, .bool false, .bool false, .bool false, .bool false, .bool false, .bool false] := rfl
    go_wp2_with fail
    have hbn := blank_any ⟨0, 256, 0⟩
    rw [e2] at hbn
    refine (hbn _).mono ?_
    rintro e w3 ⟨rfl, hb⟩
    have h3 := h2.below hb
    clear hb h2 e2 hbn
    go_wp2_with fail
    refine (may_any (blankS ⟨0, 256, 0⟩) (by decide) _).mono ?_
    rintro e w4 ⟨rfl, hb⟩
    have h4 := h3.below hb
    rw [may_blank_not]
    clear hb h3
    go_wp2_with fail
    go_ret
    exact ⟨rfl, by (try rw [hB]); exact h4.hL⟩
  · go_wp2_with (with_reducible refine wpList_ldS rfl (.tmp 2) rfl rfl h1.hA ?_)
    refine (blank_any s _).mono ?_
    rintro e w2 ⟨rfl, hb⟩
    have h2 := h1.below hb
    clear hb h1
    go_wp2_with fail
    refine (may_any (blankS s) ⟨by unfold blankS; dsimp only; decide, by unfold blankS; dsimp only; decide⟩ _).mono ?_
    rintro e w3 ⟨rfl, hb⟩
    have h3 := h2.below hb
    rw [HMB.out (by first | rfl | trivial)]
    clear hb h2
    go_wp2_with fail
    go_loopw [5] (fun i wr => ∃ k : Nat, k ≤ n ∧ i = .int .i64 k ∧ LS w wr B s A n L) (fun i _ => n - (intOf i).toNat)
    case atStart => exact ⟨0, by omega, rfl, h3⟩
    case round =>
      clear h3
      obtain ⟨k, hk, rfl, hC⟩ := hrel
      by_cases hkn : k < n
      · have hki : (k : Int) < (n : Int) := by omega
        have hk0 : (0 : Int) ≤ (k : Int) := by omega
        obtain ⟨b1, o1, rfl, hcl1⟩ := hC.r.2 (by omega)
        have d1 := hcl1 k hkn
        obtain ⟨z, hz⟩ : ∃ z, L.getD k 0 = z := ⟨_, rfl⟩
        rw [hz] at d1
        obtain ⟨X, hX⟩ : ∃ X, putS z s = X := ⟨_, rfl⟩
        have HXg : Hid (∀ x ∈ X, goodC x) := Lib.hid (by rw [← hX]; exact HPG.out (by first | rfl | trivial) z)
        have HPut : Hid (∀ W, Calls Try.prog 13 #[.int .i32 z, s.val] W fun e w' => (∃ v, e = .returned v ∧ w'.ownsRow W.heap.size 36 15 v X.length (flatX X)) ∧ Below W.heap.size W w') := Lib.hid (fun W => by rw [← hX]; exact put_any z s W)
        have HXL : Hid (X.length ≤ 2) := Lib.hid (by rw [← hX]; exact putS_len z s)
        have HCC := Lib.hid hC
        clear hcl1 hz hX hC
        go_wp2_with fail
        apply wp_region_eff _ _ (Inv.start0 wr fun _ => False) (hm := by kernel_rfl)
        case h =>
          (apply SeqF.pure; (focus (first | rfl | (go_simp; done) | (simp [Region.wanted, yielded]; done))); (focus (intro w; go_simp; with_reducible rfl)); go_simp)
          (apply SeqF.pure; (focus (first | rfl | (go_simp; done) | (simp [Region.wanted, yielded]; done))); (focus (intro w; go_simp; with_reducible rfl)); go_simp)
          (apply SeqF.pure; (focus (first | rfl | (go_simp; done) | (simp [Region.wanted, yielded]; done))); (focus (intro w; go_simp; with_reducible rfl)); go_simp)
          apply SeqF.read (v := .int .i32 z) []
          · (first | rfl | (go_simp; done) | (simp [Region.wanted, yielded]; done))
          · intro γ' W hg hI
            have x0 := ((bcell hI.belowOf).1 b1 (o1 + k) (block_lt_of_cell d1)).trans d1
            go_simp
          go_simp
          apply SeqF.read (v := s.val) []
          · (first | rfl | (go_simp; done) | (simp [Region.wanted, yielded]; done))
          · exact fun γ' U hg hI => exec_load rfl rfl (run_load_sty ((hI.far B (lt_of_heap HCC.out.hA) id).trans HCC.out.hA))
          go_simp
          apply SeqF.callNew [] 1 36 15 X.length (flatX X) 13 #[.int .i32 z, s.val]
          · (first | rfl | (go_simp; done) | (simp [Region.wanted, yielded]; done))
          · intro w; kernel_rfl
          · exact fun γ' U _ hI => HPut.out U
          intro v x hv hvn
          obtain rfl := hv.val (by decide)
          go_simp
          apply SeqF.dyn [1] (fun γ => rowVal 15 X.length (γ 1))
          · intro γ' hg; simp only [hg 1 (by simp)]
          · (first | rfl | (go_simp; done) | (simp [Region.wanted, yielded]; done))
          · intro γ' V hg hI
            simp only [Gh.set_here]
            go_simp
          simp only [Gh.set_here]
          apply SeqF.done
          intro w9 hI9
          have hC9 : LS w w9 B s (some ⟨b1, o1, none⟩) n L := HCC.out.below hI9.belowOf
          obtain ⟨A2, cp, hv2, hX2, hcp⟩ := RdX.of hv (fun g o hgo => (hI9.here 1 g o (by rw [Gh.set_here]; exact hgo)).1)
          rw [hv2]
          obtain ⟨m, hm⟩ : ∃ m, X.length = m := ⟨_, rfl⟩
          rw [hm] at hcp ⊢
          have HM := Lib.hid hm
          have hm2 : m ≤ 2 := by rw [← hm]; exact HXL.out
          clear hI9 hv hvn hv2 d1 hm HPut HCC
          go_simp
          go_wp2_with fail
          go_loopw [7] (fun i wr => ∃ q : Nat, q ≤ m ∧ i = .int .i64 q ∧ LS w wr B s (some ⟨b1, o1, none⟩) n L ∧ RdX wr A2 X) (fun i _ => m - (intOf i).toNat)
          case atStart => exact ⟨0, by omega, rfl, hC9, hX2⟩
          case round =>
            clear hC9 hX2
            obtain ⟨q, hq, rfl, hC, hX⟩ := hrel
            by_cases hqm : q < m
            · have hqi : (q : Int) < (m : Int) := by omega
              have hq0 : (0 : Int) ≤ (q : Int) := by omega
              obtain ⟨x, hx⟩ : ∃ x, X[q]? = some x := ⟨_, List.getElem?_eq_getElem (by rw [HM.out]; exact hqm)⟩
              obtain ⟨g, cur, t, rfl, hg, hcr⟩ := hX q x hx
              have HG := Lib.hid (HXg.out x (List.mem_of_getElem? hx))
              have d2 : wr.cell? ⟨g, q * 15, none⟩ = some (.int .i32 x.c) := by
                rw [Nat.mul_comm]
                exact (cell_of_row _ _ _ _ _ _ hg).trans (hcr 0 _ rfl)
              obtain ⟨D, hD⟩ : ∃ D, wr.heap.size = D := ⟨_, rfl⟩
              have HZ : Hid ((wr.alloc (.cells #[.int .i32 0, .int .i32 0, .int .i32 0, .int .i32 0, .int .u8 0, .int .i64 0, .int .i64 0, .bool false, .bool false, .bool false, .bool false, .bool false, .bool false, .bool false, .bool false] 36)).heap[D]? = some (.cells zrow 36 (0, 0))) := Lib.hid (by rw [← hD]; exact heap_alloc_last _ _)
              have hlB := lt_of_heap hC.hA
              have hlX := hX.lt
              have hY : Hid (LY w ((wr.alloc (.cells #[.int .i32 0, .int .i32 0, .int .i32 0, .int .i32 0, .int .u8 0, .int .i64 0, .int .i64 0, .bool false, .bool false, .bool false, .bool false, .bool false, .bool false, .bool false, .bool false] 36)).setRow D x.row) B D s (some ⟨b1, o1, none⟩) n L (some ⟨g, 0, none⟩) X x) := Lib.hid (by
                have hlr : 0 < n → b1 < wr.heap.size := fun hn => hC.r.lt_ hn rfl
                rw [hD] at hlB hlX hlr
                have hbl : Below wr.heap.size wr ((wr.alloc (.cells #[.int .i32 0, .int .i32 0, .int .i32 0, .int .i32 0, .int .u8 0, .int .i64 0, .int .i64 0, .bool false, .bool false, .bool false, .bool false, .bool false, .bool false, .bool false, .bool false] 36)).setRow D x.row) := below_setRow (by (repeat' (first | (with_reducible exact Below.refl _ _) | (with_reducible assumption) | (with_reducible refine Below.alloc ?_ ?_ _) | (with_reducible refine below_setRow ?_ ?_ _) | (with_reducible refine bl_drew ?_) | (with_reducible refine bl_drewN ?_ _) | (with_reducible refine Below.setCell ?_ ?_ _) | (with_reducible refine bl_then ?_ ?_ hb) | (with_reducible refine bl_then ?_ ?_ hb1) | (with_reducible refine bl_then ?_ ?_ hb2) | (with_reducible refine bl_then ?_ ?_ hb3) | (with_reducible refine bl_then ?_ ?_ hb4) | (with_reducible refine bl_then ?_ ?_ hb5) | (with_reducible refine bl_then ?_ ?_ hb6) | (with_reducible refine bl_then ?_ ?_ hb7) | (with_reducible refine bl_then ?_ ?_ hb8) | (with_reducible exact Nat.le_refl _) | omega | (simp only [World.size_alloc, World.size_setCell, World.size_drew, size_setRow]; omega) | (simp; omega) | (simp; done)))) (by omega) _
                exact ⟨(hbl.block B (by omega)).trans hC.hA, bl_then hC.hL (by omega) hbl, hC.r.below hbl, hX.below hbl, setRow_heap _ _ _ _ _ _ HZ.out, hlB, fun b off hn e => by
                  simp only [Option.some.injEq, Addr.mk.injEq] at e
                  have := hlr hn
                  omega, fun b off hl e => hlX b off hl e⟩)
              clear hlB hlX hC
              have hcr' : ∀ j u, x.row.toList[j]? = some u → cur[q * 15 + j]? = some u := fun j u hu => by rw [Nat.mul_comm]; exact hcr j u hu
              have HXQ := Lib.hid hx
              clear hcr hX hx
              go_wp2_with (first | (with_reducible refine wpList_ldM (celInfo' x) celRow rfl (.tmp 44) rfl rfl hg hcr' ?_) | (with_reducible refine wpList_stB (celInfo' x) (Cel.one x) rfl (.tmp 8) (.tmp 45) rfl rfl rfl HZ.out rfl ?_))
              try rw [hD]
              clear HZ d2
              generalize (wr.alloc (.cells #[.int .i32 0, .int .i32 0, .int .i32 0, .int .i32 0, .int .u8 0, .int .i64 0, .int .i64 0, .bool false, .bool false, .bool false, .bool false, .bool false, .bool false, .bool false, .bool false] 36)).setRow D x.row = V at *
              have hY0 : LY w V B D s (some ⟨b1, o1, none⟩) n L (some ⟨g, 0, none⟩) X x := hY.out
              clear hY hD hg hcr'
              go_loopw [9] (fun i wr => ∃ p : Nat, p ≤ n ∧ i = .int .i64 p ∧ ∃ y : Cel, goodC y ∧ y.c = x.c ∧ LY w wr B D s (some ⟨b1, o1, none⟩) n L (some ⟨g, 0, none⟩) X y) (fun i _ => n - (intOf i).toNat)
              case atStart => exact ⟨0, by omega, rfl, x, HG.out, rfl, hY0⟩
              case round =>
                clear hY0
                obtain ⟨p, hp, rfl, y, hgy, hyc, hY⟩ := hrel
                by_cases hpn : p < n
                · have hpi : (p : Int) < (n : Int) := by omega
                  have hp0 : (0 : Int) ≤ (p : Int) := by omega
                  obtain ⟨b2, o2, he2, hcl1⟩ := hY.r.2 (by omega)
                  obtain ⟨rfl, rfl⟩ : b1 = b2 ∧ o1 = o2 := by simpa using he2
                  have d1 := hcl1 p hpn
                  have hbD := hY.rD b1 o1 (by omega) rfl
                  obtain ⟨c, hc⟩ : ∃ c, L.getD p 0 = c := ⟨_, rfl⟩
                  rw [hc] at d1
                  have HGY := Lib.hid hgy
                  have HYC := Lib.hid hyc
                  have HY := Lib.hid hY
                  clear hcl1 he2 hc hgy hyc hY
                  go_wp2_with fail
                  apply wp_region_eff _ _ HY.out.inv (hm := by kernel_rfl)
                  case h =>
                    apply SeqF.read (v := y.val) [0]
                    · (first | rfl | (go_simp; done) | (simp [Region.wanted, yielded]; done))
                    · exact fun γ' U hg hI => exec_load rfl rfl (run_load_cel (hI.here 0 _ _ ((hg 0 (by simp)).trans rfl)).1)
                    go_simp
                    (apply SeqF.pure; (focus (first | rfl | (go_simp; done) | (simp [Region.wanted, yielded]; done))); (focus (intro w; go_simp; with_reducible rfl)); go_simp)
                    (apply SeqF.pure; (focus (first | rfl | (go_simp; done) | (simp [Region.wanted, yielded]; done))); (focus (intro w; go_simp; with_reducible rfl)); go_simp)
                    (apply SeqF.pure; (focus (first | rfl | (go_simp; done) | (simp [Region.wanted, yielded]; done))); (focus (intro w; go_simp; with_reducible rfl)); go_simp)
                    apply SeqF.read (v := .int .i32 c) []
                    · (first | rfl | (go_simp; done) | (simp [Region.wanted, yielded]; done))
                    · intro γ' W hg hI
                      have x0 := (cell_same (o := o1 + p) (hI.far b1 (block_lt_of_cell d1) (by omega))).trans d1
                      go_simp
                    go_simp
                    apply SeqF.call (v := (markS y c).val) [] 14 #[y.val, .int .i32 c]
                    · (first | rfl | (go_simp; done) | (simp [Region.wanted, yielded]; done))
                    · intro w; kernel_rfl
                    · exact fun γ' U hg hI => (mark_any y c HGY.out.2 U).mono (by rintro e W' ⟨rfl, hb⟩; exact ⟨rfl, hI.below hb⟩)
                    go_simp
                    apply SeqF.store [0] 0 D (.cells y.row 36 (0, 0)) rfl (by simp) (fun _ => .cells (markS y c).row 36 (0, 0))
                    · exact fun _ _ => rfl
                    · (first | rfl | (go_simp; done) | (simp [Region.wanted, yielded]; done))
                    · exact fun γ' W hg hI hW => ⟨_, exec_store rfl rfl rfl (run_store_cel hW), only_setRow hW⟩
                    go_simp
                    apply SeqF.done
                    intro w9 hI9
                    have hY9 := HY.out.next hI9 (Gh.set_here _ _ _)
                    obtain ⟨hg9, hc9⟩ := mark_good y c HGY.out
                    have hc9' := hc9.trans HYC.out
                    clear hI9 HY HGY HYC d1
                    go_simp
                    go_wp2_with fail
                    go_roundw
                    case rel =>
                      first
                        | exact ⟨p + 1, by omega, by go_num, _, hg9, hc9', hY9⟩
                        | ((repeat apply Exists.intro); refine ⟨?_, rfl⟩; exact ⟨p + 1, by omega, by go_num, _, hg9, hc9', hY9⟩)
                    case measure => first | (simp [intOf]; done) | (simp [intOf]; omega)
                  case hl => rfl
                  case ho => kernel_rfl
                · have hpi : ¬ (p : Int) < (n : Int) := by omega
                  have d0 : wr.cell? ⟨D, 0, none⟩ = some (.int .i32 x.c) := (cell_of_row _ _ _ _ _ _ hY.hD).trans (by rw [← hyc]; rfl)
                  obtain ⟨g', cur', t', he, hg', hcr'⟩ := hY.hX q x HXQ.out
                  obtain rfl : g = g' := by simpa using he
                  have d2 : wr.cell? ⟨g, q * 15, none⟩ = some (.int .i32 x.c) := by
                    rw [Nat.mul_comm]
                    exact (cell_of_row _ _ _ _ _ _ hg').trans (hcr' 0 _ rfl)
                  have HY := Lib.hid hY
                  have HGY := Lib.hid hgy
                  clear he hg' hcr' hgy hyc hY
                  go_wp2_with fail
                  apply wp_region_eff _ _ (Inv.start0 wr fun _ => False) (hm := by kernel_rfl)
                  case h =>
                    apply SeqF.read (v := y.val) []
                    · (first | rfl | (go_simp; done) | (simp [Region.wanted, yielded]; done))
                    · exact fun γ' U hg hI => exec_load rfl rfl (run_load_cel ((hI.far D (lt_of_heap HY.out.hD) id).trans HY.out.hD))
                    go_simp
                    apply SeqF.call (v := .bool true) [] 11 #[y.val]
                    · (first | rfl | (go_simp; done) | (simp [Region.wanted, yielded]; done))
                    · intro w; kernel_rfl
                    · exact fun γ' U hg hI => (may_any y HGY.out.2 U).mono (by rintro e W' ⟨rfl, hb⟩; exact ⟨by rw [HGY.out.1], hI.below hb⟩)
                    go_simp
                    (apply SeqF.pure; (focus (first | rfl | (go_simp; done) | (simp [Region.wanted, yielded]; done))); (focus (intro w; go_simp; with_reducible rfl)); go_simp)
                    (apply SeqF.pure; (focus (first | rfl | (go_simp; done) | (simp [Region.wanted, yielded]; done))); (focus (intro w; go_simp; with_reducible rfl)); go_simp)
                    (apply SeqF.pure; (focus (first | rfl | (go_simp; done) | (simp [Region.wanted, yielded]; done))); (focus (intro w; go_simp; with_reducible rfl)); go_simp)
                    apply SeqF.read (v := .int .i32 x.c) []
                    · (first | rfl | (go_simp; done) | (simp [Region.wanted, yielded]; done))
                    · intro γ' W hg hI
                      have x0 := ((bcell hI.belowOf).1 D 0 (block_lt_of_cell d0)).trans d0
                      go_simp
                    go_simp
                    (apply SeqF.pure; (focus (first | rfl | (go_simp; done) | (simp [Region.wanted, yielded]; done))); (focus (intro w; go_simp; with_reducible rfl)); go_simp)
                    (apply SeqF.pure; (focus (first | rfl | (go_simp; done) | (simp [Region.wanted, yielded]; done))); (focus (intro w; go_simp; with_reducible rfl)); go_simp)
                    (apply SeqF.pure; (focus (first | rfl | (go_simp; done) | (simp [Region.wanted, yielded]; done))); (focus (intro w; go_simp; with_reducible rfl)); go_simp)
                    (apply SeqF.pure; (focus (first | rfl | (go_simp; done) | (simp [Region.wanted, yielded]; done))); (focus (intro w; go_simp; with_reducible rfl)); go_simp)
                    apply SeqF.read (v := .int .i32 x.c) []
                    · (first | rfl | (go_simp; done) | (simp [Region.wanted, yielded]; done))
                    · intro γ' W hg hI
                      have x0 := ((bcell hI.belowOf).1 g (q * 15) (block_lt_of_cell d2)).trans d2
                      go_simp
                    go_simp
                    (apply SeqF.pure; (focus (first | rfl | (go_simp; done) | (simp [Region.wanted, yielded]; done))); (focus (intro w; go_simp; with_reducible rfl)); go_simp)
                    (apply SeqF.pure; (focus (first | rfl | (go_simp; done) | (simp [Region.wanted, yielded]; done))); (focus (intro w; go_simp; with_reducible rfl)); go_simp)
                    apply SeqF.done
                    intro w9 hI9
                    have hY9 := HY.out.below hI9.belowOf
                    have hC9 : LS w w9 B s (some ⟨b1, o1, none⟩) n L := ⟨hY9.hA, hY9.hL, hY9.r⟩
                    have hX9 := hY9.hX
                    clear hI9 HY HGY d0 d2 hY9
                    go_simp
                    go_wp2_with fail
                    go_roundw
                    case rel =>
                      first
                        | exact ⟨q + 1, by omega, by go_num, hC9, hX9⟩
                        | ((repeat apply Exists.intro); refine ⟨?_, rfl⟩; exact ⟨q + 1, by omega, by go_num, hC9, hX9⟩)
                    case measure => first | (simp [intOf]; done) | (simp [intOf]; omega)
                  case hl => rfl
                  case ho => kernel_rfl
            · have hqi : ¬ (q : Int) < (m : Int) := by omega
              go_wp2_with fail
              go_roundw
              case rel =>
                first
                  | exact ⟨k + 1, by omega, by go_num, hC⟩
                  | ((repeat apply Exists.intro); refine ⟨?_, rfl⟩; exact ⟨k + 1, by omega, by go_num, hC⟩)
              case measure => first | (simp [intOf]; done) | (simp [intOf]; omega)
        case hl => rfl
        case ho => kernel_rfl
      · have hki : ¬ (k : Int) < (n : Int) := by omega
        go_wp2_with fail
        refine (anchored_any _).mono ?_
        rintro e w4 ⟨rfl, hb⟩
        have h4 := hC.below hb
        clear hb hC
        go_wp2_with fail
        go_ret
        exact ⟨rfl, by (try rw [hB]); exact h4.hL⟩
end Go.Proofs.Ytlejmllacikmeaa
