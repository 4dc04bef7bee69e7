/- What is proved: what bytes.Equal, slices.Equal and Same of package vt answer; conditions: those typed. -/
import Derived.Test.YtecgipccippddaaVtL
import Derived.StillTailTactics
import Derived.Laws.StructEq
set_option linter.unusedSimpArgs false
set_option linter.unusedVariables false
namespace Go.Proofs.Ytecgipccippddaa
open Go.RowKit
set_option maxRecDepth 100000
set_option maxHeartbeats 8000000
theorem equal_bytes (u v : Value) (xs ys : List Int) (w : World) (h : BB w u xs) (k : BB w v ys) :
    Calls Try.prog 33 #[u, v] w fun e w' => e = .returned (.bool (decide (xs = ys))) ∧ w' = w := by
  have e1 := bytes_str h
  have e2 := bytes_str k
  have e3 := str_inj h.ok k.ok
  have e4 : ((strOfNums xs).toList == (strOfNums ys).toList) = decide (xs = ys) := by
    rw [ByteArray.toList_eq, ByteArray.toList_eq]
    rw [Bool.eq_iff_iff, beq_iff_eq, decide_eq_true_iff, ← e3]
    exact ⟨fun h => by simpa [strOfNums] using h, fun h => by rw [h]⟩
  clear h k
  go_enter Try.func33, Try.ntmps33
  go_wp2_with fail
  go_ret
  exact ⟨rfl, rfl⟩
theorem equal_i64 (u v : Value) (xs ys : List Int) (w : World) (h : RR .i64 w u xs) (k : RR .i64 w v ys) :
    Calls Try.prog 34 #[u, v] w fun e w' => Tells e (xs = ys) ∧ Below w.heap.size w w' := by
  obtain ⟨h0, A, c, h1, hr⟩ := h
  obtain ⟨k0, B, d, k1, kr⟩ := k
  obtain ⟨n, hn⟩ : ∃ n, xs.length = n := ⟨_, rfl⟩
  obtain ⟨m, hm⟩ : ∃ n, ys.length = n := ⟨_, rfl⟩
  rw [hn] at h0 h1 hr
  rw [hm] at k0 k1 kr
  have HL := Lib.hid (show xs.length = n ∧ ys.length = m from ⟨hn, hm⟩)
  have HR := Lib.hid hr
  have HS := Lib.hid kr
  subst h1 k1
  clear hr kr hn hm
  rcases Decidable.em (n = m) with rfl | hne
  · go_enter Try.func34, Try.ntmps34
    go_wp2_with fail
    go_loopw [13] (fun i wr => ∃ k : Nat, k ≤ n ∧ i = .int .i64 k ∧ Hid (Below w.heap.size w wr) ∧ Hid (∀ j, j < k → xs.getD j 0 = ys.getD j 0)) (fun i _ => n - (intOf i).toNat)
    case atStart => exact ⟨0, by omega, rfl, Lib.hid (Below.refl _ _), Lib.hid (fun j hj => by omega)⟩
    case round =>
      obtain ⟨k, hk, rfl, HB, HK⟩ := hrel
      by_cases hkn : k < n
      · have hki : (k : Int) < (n : Int) := by omega
        have hk0 : (0 : Int) ≤ (k : Int) := by omega
        obtain ⟨b1, o1, hA, hc1⟩ := (HR.out.blocks (w1 := wr) fun b off hn hA => HB.out.block b (HR.out.lt_ hn hA)).2 (by omega)
        obtain ⟨b2, o2, hB, hc2⟩ := (HS.out.blocks (w1 := wr) fun b off hn hA => HB.out.block b (HS.out.lt_ hn hA)).2 (by omega)
        have dx := hc1 k hkn
        have dy := hc2 k hkn
        subst hA hB
        obtain ⟨x, hx⟩ : ∃ x, xs.getD k 0 = x := ⟨_, rfl⟩
        obtain ⟨y, hy⟩ : ∃ y, ys.getD k 0 = y := ⟨_, rfl⟩
        rw [hx] at dx
        rw [hy] at dy
        have HX := Lib.hid hx
        have HY := Lib.hid hy
        clear hx hy hc1 hc2
        rcases Decidable.em (x = y) with rfl | hne
        · have HK2 : Hid (∀ j, j < k + 1 → xs.getD j 0 = ys.getD j 0) := Lib.hid (fun j hj => by
            rcases (by omega : j < k ∨ j = k) with h | rfl
            · exact HK.out j h
            · rw [HX.out, HY.out])
          have HB9 : Hid (Below w.heap.size w wr.drew) := Lib.hid HB.out.drew
          go_wp2_with (go_still (by kernel_rfl))
          go_roundw
          case rel =>
            first
              | exact ⟨k + 1, by omega, by go_num, HB9, HK2⟩
              | ((repeat apply Exists.intro); refine ⟨?_, rfl⟩; exact ⟨k + 1, by omega, by go_num, HB9, HK2⟩)
          case measure => first | (simp [intOf]; done) | (simp [intOf]; omega)
        · have hnb : (x != y) = true := by simpa using hne
          have HNE : Hid (¬ xs = ys) := Lib.hid (fun e => hne (by rw [← HX.out, ← HY.out, e]))
          have HB9 : Hid (Below w.heap.size w wr.drew) := Lib.hid HB.out.drew
          go_wp2_with (go_still (by kernel_rfl))
          go_ret
          exact ⟨Tells.no rfl Iff.rfl HNE.out, HB9.out⟩
      · have hki : ¬ (k : Int) < (n : Int) := by omega
        have HEQ : Hid (xs = ys) := Lib.hid (ext_getD (by rw [HL.out.1, HL.out.2]) (fun j hj => HK.out j (by have := HL.out.1; omega)))
        go_wp2_with fail
        go_ret
        exact ⟨Tells.yes rfl Iff.rfl HEQ.out, HB.out⟩
  · have hnb : (((n : Nat) : Int) != ((m : Nat) : Int)) = true := by simp; omega
    have HNE : Hid (¬ xs = ys) := Lib.hid (fun e => hne (by have h1 := HL.out; rw [e] at h1; omega))
    go_enter Try.func34, Try.ntmps34
    go_wp2_with fail
    go_ret
    exact ⟨Tells.no rfl Iff.rfl HNE.out, Below.refl _ _⟩
theorem equal_i32 (u v : Value) (xs ys : List Int) (w : World) (h : RR .i32 w u xs) (k : RR .i32 w v ys) :
    Calls Try.prog 35 #[u, v] w fun e w' => Tells e (xs = ys) ∧ Below w.heap.size w w' := by
  obtain ⟨h0, A, c, h1, hr⟩ := h
  obtain ⟨k0, B, d, k1, kr⟩ := k
  obtain ⟨n, hn⟩ : ∃ n, xs.length = n := ⟨_, rfl⟩
  obtain ⟨m, hm⟩ : ∃ n, ys.length = n := ⟨_, rfl⟩
  rw [hn] at h0 h1 hr
  rw [hm] at k0 k1 kr
  have HL := Lib.hid (show xs.length = n ∧ ys.length = m from ⟨hn, hm⟩)
  have HR := Lib.hid hr
  have HS := Lib.hid kr
  subst h1 k1
  clear hr kr hn hm
  rcases Decidable.em (n = m) with rfl | hne
  · go_enter Try.func35, Try.ntmps35
    go_wp2_with fail
    go_loopw [13] (fun i wr => ∃ k : Nat, k ≤ n ∧ i = .int .i64 k ∧ Hid (Below w.heap.size w wr) ∧ Hid (∀ j, j < k → xs.getD j 0 = ys.getD j 0)) (fun i _ => n - (intOf i).toNat)
    case atStart => exact ⟨0, by omega, rfl, Lib.hid (Below.refl _ _), Lib.hid (fun j hj => by omega)⟩
    case round =>
      obtain ⟨k, hk, rfl, HB, HK⟩ := hrel
      by_cases hkn : k < n
      · have hki : (k : Int) < (n : Int) := by omega
        have hk0 : (0 : Int) ≤ (k : Int) := by omega
        obtain ⟨b1, o1, hA, hc1⟩ := (HR.out.blocks (w1 := wr) fun b off hn hA => HB.out.block b (HR.out.lt_ hn hA)).2 (by omega)
        obtain ⟨b2, o2, hB, hc2⟩ := (HS.out.blocks (w1 := wr) fun b off hn hA => HB.out.block b (HS.out.lt_ hn hA)).2 (by omega)
        have dx := hc1 k hkn
        have dy := hc2 k hkn
        subst hA hB
        obtain ⟨x, hx⟩ : ∃ x, xs.getD k 0 = x := ⟨_, rfl⟩
        obtain ⟨y, hy⟩ : ∃ y, ys.getD k 0 = y := ⟨_, rfl⟩
        rw [hx] at dx
        rw [hy] at dy
        have HX := Lib.hid hx
        have HY := Lib.hid hy
        clear hx hy hc1 hc2
        rcases Decidable.em (x = y) with rfl | hne
        · have HK2 : Hid (∀ j, j < k + 1 → xs.getD j 0 = ys.getD j 0) := Lib.hid (fun j hj => by
            rcases (by omega : j < k ∨ j = k) with h | rfl
            · exact HK.out j h
            · rw [HX.out, HY.out])
          have HB9 : Hid (Below w.heap.size w wr.drew) := Lib.hid HB.out.drew
          go_wp2_with (go_still (by kernel_rfl))
          go_roundw
          case rel =>
            first
              | exact ⟨k + 1, by omega, by go_num, HB9, HK2⟩
              | ((repeat apply Exists.intro); refine ⟨?_, rfl⟩; exact ⟨k + 1, by omega, by go_num, HB9, HK2⟩)
          case measure => first | (simp [intOf]; done) | (simp [intOf]; omega)
        · have hnb : (x != y) = true := by simpa using hne
          have HNE : Hid (¬ xs = ys) := Lib.hid (fun e => hne (by rw [← HX.out, ← HY.out, e]))
          have HB9 : Hid (Below w.heap.size w wr.drew) := Lib.hid HB.out.drew
          go_wp2_with (go_still (by kernel_rfl))
          go_ret
          exact ⟨Tells.no rfl Iff.rfl HNE.out, HB9.out⟩
      · have hki : ¬ (k : Int) < (n : Int) := by omega
        have HEQ : Hid (xs = ys) := Lib.hid (ext_getD (by rw [HL.out.1, HL.out.2]) (fun j hj => HK.out j (by have := HL.out.1; omega)))
        go_wp2_with fail
        go_ret
        exact ⟨Tells.yes rfl Iff.rfl HEQ.out, HB.out⟩
  · have hnb : (((n : Nat) : Int) != ((m : Nat) : Int)) = true := by simp; omega
    have HNE : Hid (¬ xs = ys) := Lib.hid (fun e => hne (by have h1 := HL.out; rw [e] at h1; omega))
    go_enter Try.func35, Try.ntmps35
    go_wp2_with fail
    go_ret
    exact ⟨Tells.no rfl Iff.rfl HNE.out, Below.refl _ _⟩
theorem same_any (a b : HA) (w : World) (ha : AR w a) (hb : AR w b) :
    Calls Try.prog 18 #[.agg (arow a), .agg (arow b)] w fun e w' => Tells e (a.ac = b.ac) ∧ Below w.heap.size w w' := by
  obtain ⟨ak, ac, av, af, avm, avp, avt, am, ap, at'⟩ := a
  obtain ⟨bk, bc, bv, bf, bvm, bvp, bvt, bm, bp, bt⟩ := b
  obtain ⟨x0, hx0⟩ : ∃ x, HA.ac ⟨ak, ac, av, af, avm, avp, avt, am, ap, at'⟩ = x := ⟨_, rfl⟩
  obtain ⟨y0, hy0⟩ : ∃ x, HA.ac ⟨bk, bc, bv, bf, bvm, bvp, bvt, bm, bp, bt⟩ = x := ⟨_, rfl⟩
  have HXY : Hid (x0 = y0 ↔ (ak = bk ∧ ac = bc ∧ av = bv ∧ af = bf ∧ am = bm ∧ ap = bp ∧ at' = bt)) := Lib.hid (by rw [← hx0, ← hy0]; simp [HA.ac])
  rw [hx0, hy0]
  clear hx0 hy0
  simp only [arow]
  obtain ⟨am1, am2, A1, c1, h1, hr1⟩ := ha.m
  obtain ⟨bm1, bm2, B1, d1, k1, kr1⟩ := hb.m
  obtain ⟨_, A2, c2, h2, hr2⟩ := ha.p
  obtain ⟨_, B2, d2, k2, kr2⟩ := hb.p
  obtain ⟨_, A3, c3, h3, hr3⟩ := ha.t
  obtain ⟨_, B3, d3, k3, kr3⟩ := hb.t
  dsimp only at h1 k1 h2 k2 h3 k3 hr2 kr2 hr3 kr3 am1 am2 bm1 bm2
  obtain ⟨n1, hn1⟩ : ∃ n, am.length = n := ⟨_, rfl⟩
  obtain ⟨m1, hm1⟩ : ∃ n, bm.length = n := ⟨_, rfl⟩
  obtain ⟨n2, hn2⟩ : ∃ n, ap.length = n := ⟨_, rfl⟩
  obtain ⟨m2, hm2⟩ : ∃ n, bp.length = n := ⟨_, rfl⟩
  obtain ⟨n3, hn3⟩ : ∃ n, at'.length = n := ⟨_, rfl⟩
  obtain ⟨m3, hm3⟩ : ∃ n, bt.length = n := ⟨_, rfl⟩
  have HL : Hid (ap.length = n2 ∧ bp.length = m2 ∧ at'.length = n3 ∧ bt.length = m3 ∧ n2 ≤ 140737488355328 ∧ n3 ≤ 140737488355328) := Lib.hid ⟨hn2, hm2, hn3, hm3, by rw [← hn2]; exact ha.p.1, by rw [← hn3]; exact ha.t.1⟩
  rw [hn1] at h1
  rw [hm1] at k1
  rw [hn2] at h2 hr2
  rw [hm2] at k2 kr2
  rw [hn3] at h3 hr3
  rw [hm3] at k3 kr3
  subst h1 k1 h2 k2 h3 k3
  obtain ⟨X, hX⟩ : ∃ X, w.heap.size = X := ⟨_, rfl⟩
  obtain ⟨W0, hW0⟩ : ∃ W, w.alloc (.cells #[.int .u8 ak, .int .i32 ac, .int .u8 av, .int .u8 af, .slice A1 n1 c1, .slice A2 n2 c2, .slice A3 n3 c3] 31) = W := ⟨_, rfl⟩
  have hX0 : W0.heap.size = X + 1 := by rw [← hW0, ← hX]; simp
  obtain ⟨W, hW⟩ : ∃ W, W0.alloc (.cells #[.int .u8 bk, .int .i32 bc, .int .u8 bv, .int .u8 bf, .slice B1 m1 d1, .slice B2 m2 d2, .slice B3 m3 d3] 31) = W := ⟨_, rfl⟩
  have hXW : W.heap.size = X + 2 := by rw [← hW]; simp [hX0]
  have hb0 : Below w.heap.size w W0 := by rw [← hW0]; exact Below.alloc (Below.refl _ _) (Nat.le_refl _) _
  have HBW : Hid (Below w.heap.size w W) := Lib.hid (by rw [← hW]; exact Below.alloc hb0 hb0.size _)
  have HROW1 : Hid (W.heap[X]? = some (.cells #[.int .u8 ak, .int .i32 ac, .int .u8 av, .int .u8 af, .slice A1 n1 c1, .slice A2 n2 c2, .slice A3 n3 c3] 31 (0, 0))) := Lib.hid (by
    rw [← hW, heap_alloc_old _ _ (by omega), ← hW0, ← hX]; exact heap_alloc_last _ _)
  have HROW2 : Hid (W.heap[X + 1]? = some (.cells #[.int .u8 bk, .int .i32 bc, .int .u8 bv, .int .u8 bf, .slice B1 m1 d1, .slice B2 m2 d2, .slice B3 m3 d3] 31 (0, 0))) := Lib.hid (by
    rw [← hW, ← hX0]; exact heap_alloc_last _ _)
  have za0 : W.cell? ⟨X, 0, none⟩ = some (.int .u8 ak) := (cell_of_row _ _ _ _ _ _ HROW1.out).trans rfl
  have za1 : W.cell? ⟨X, 1, none⟩ = some (.int .i32 ac) := (cell_of_row _ _ _ _ _ _ HROW1.out).trans rfl
  have za2 : W.cell? ⟨X, 2, none⟩ = some (.int .u8 av) := (cell_of_row _ _ _ _ _ _ HROW1.out).trans rfl
  have za3 : W.cell? ⟨X, 3, none⟩ = some (.int .u8 af) := (cell_of_row _ _ _ _ _ _ HROW1.out).trans rfl
  have za4 : W.cell? ⟨X, 4, none⟩ = some (.slice A1 n1 c1) := (cell_of_row _ _ _ _ _ _ HROW1.out).trans rfl
  have za5 : W.cell? ⟨X, 5, none⟩ = some (.slice A2 n2 c2) := (cell_of_row _ _ _ _ _ _ HROW1.out).trans rfl
  have za6 : W.cell? ⟨X, 6, none⟩ = some (.slice A3 n3 c3) := (cell_of_row _ _ _ _ _ _ HROW1.out).trans rfl
  have zb0 : W.cell? ⟨X + 1, 0, none⟩ = some (.int .u8 bk) := (cell_of_row _ _ _ _ _ _ HROW2.out).trans rfl
  have zb1 : W.cell? ⟨X + 1, 1, none⟩ = some (.int .i32 bc) := (cell_of_row _ _ _ _ _ _ HROW2.out).trans rfl
  have zb2 : W.cell? ⟨X + 1, 2, none⟩ = some (.int .u8 bv) := (cell_of_row _ _ _ _ _ _ HROW2.out).trans rfl
  have zb3 : W.cell? ⟨X + 1, 3, none⟩ = some (.int .u8 bf) := (cell_of_row _ _ _ _ _ _ HROW2.out).trans rfl
  have zb4 : W.cell? ⟨X + 1, 4, none⟩ = some (.slice B1 m1 d1) := (cell_of_row _ _ _ _ _ _ HROW2.out).trans rfl
  have zb5 : W.cell? ⟨X + 1, 5, none⟩ = some (.slice B2 m2 d2) := (cell_of_row _ _ _ _ _ _ HROW2.out).trans rfl
  have zb6 : W.cell? ⟨X + 1, 6, none⟩ = some (.slice B3 m3 d3) := (cell_of_row _ _ _ _ _ _ HROW2.out).trans rfl
  have HBA := Lib.hid (ha.m.below HBW.out)
  have HBB := Lib.hid (hb.m.below HBW.out)
  have HPA := Lib.hid (ha.p.below HBW.out)
  have HPB := Lib.hid (hb.p.below HBW.out)
  have HTA := Lib.hid (ha.t.below HBW.out)
  have HTB := Lib.hid (hb.t.below HBW.out)
  clear ha hb hr1 kr1 hr2 kr2 hr3 kr3 am1 am2 bm1 bm2 hn1 hm1 hn2 hm2 hn3 hm3 hb0
  rcases Decidable.em (ak = bk) with rfl | hne
  · rcases Decidable.em (ac = bc) with rfl | hne
    · rcases Decidable.em (av = bv) with rfl | hne
      · rcases Decidable.em (af = bf) with rfl | hne
        · rcases Decidable.em (am = bm) with rfl | hne
          · rcases Decidable.em (ap = bp) with rfl | hne
            · rcases Decidable.em (at' = bt) with rfl | hne
              · go_enter Try.func18, Try.ntmps18
                go_wp2_with fail
                refine (equal_bytes _ _ am am W HBA.out HBB.out).mono ?_
                rintro e w5 ⟨rfl, hww⟩
                subst w5
                rw [show decide (am = am) = true from decide_eq_true rfl]
                go_wp2_with fail
                refine (equal_i64 _ _ ap ap W HPA.out HPB.out).mono ?_
                rintro e w6 ⟨⟨r, rfl, hr⟩, hb⟩
                have HBE : Hid (Below w.heap.size w w6) := Lib.hid (bl_then HBW.out HBW.out.size hb)
                have y6 : w6.cell? ⟨X, 6, none⟩ = some (.slice A3 n3 c3) := (hb.cell (p := ⟨X, 6, none⟩) (by rw [hXW]; show X < X + 2; omega)).trans za6
                have x6 : w6.cell? ⟨X + 1, 6, none⟩ = some (.slice B3 m3 d3) := (hb.cell (p := ⟨X + 1, 6, none⟩) (by rw [hXW]; show X + 1 < X + 2; omega)).trans zb6
                have HTA6 := Lib.hid (HTA.out.below hb)
                have HTB6 := Lib.hid (HTB.out.below hb)
                have hs6 : X + 2 ≤ w6.heap.size := by have := hb.size; omega
                have hl6 : X < w6.heap.size := by omega
                have hl7 : X + 1 < w6.heap.size := by omega
                clear hb
                obtain rfl : r = true := hr.2 rfl
                clear hr
                go_wp2_with fail
                refine (equal_i32 _ _ at' at' w6 HTA6.out HTB6.out).mono ?_
                rintro e w7 ⟨⟨r, rfl, hr⟩, hb⟩
                have HBE7 : Hid (Below w.heap.size w w7) := Lib.hid (bl_then HBE.out HBE.out.size hb)
                clear hb HBE
                have HBE := HBE7
                obtain rfl : r = true := hr.2 rfl
                clear hr
                go_wp2_with fail
                go_ret
                exact ⟨Tells.yes rfl HXY.out (by simp), (by first | exact HBE.out | exact hX ▸ HBE.out)⟩
              · have HNE : Hid (¬ at' = bt) := Lib.hid hne
                go_enter Try.func18, Try.ntmps18
                go_wp2_with fail
                refine (equal_bytes _ _ am am W HBA.out HBB.out).mono ?_
                rintro e w5 ⟨rfl, hww⟩
                subst w5
                rw [show decide (am = am) = true from decide_eq_true rfl]
                go_wp2_with fail
                refine (equal_i64 _ _ ap ap W HPA.out HPB.out).mono ?_
                rintro e w6 ⟨⟨r, rfl, hr⟩, hb⟩
                have HBE : Hid (Below w.heap.size w w6) := Lib.hid (bl_then HBW.out HBW.out.size hb)
                have y6 : w6.cell? ⟨X, 6, none⟩ = some (.slice A3 n3 c3) := (hb.cell (p := ⟨X, 6, none⟩) (by rw [hXW]; show X < X + 2; omega)).trans za6
                have x6 : w6.cell? ⟨X + 1, 6, none⟩ = some (.slice B3 m3 d3) := (hb.cell (p := ⟨X + 1, 6, none⟩) (by rw [hXW]; show X + 1 < X + 2; omega)).trans zb6
                have HTA6 := Lib.hid (HTA.out.below hb)
                have HTB6 := Lib.hid (HTB.out.below hb)
                have hs6 : X + 2 ≤ w6.heap.size := by have := hb.size; omega
                have hl6 : X < w6.heap.size := by omega
                have hl7 : X + 1 < w6.heap.size := by omega
                clear hb
                obtain rfl : r = true := hr.2 rfl
                clear hr
                go_wp2_with fail
                refine (equal_i32 _ _ at' bt w6 HTA6.out HTB6.out).mono ?_
                rintro e w7 ⟨⟨r, rfl, hr⟩, hb⟩
                have HBE7 : Hid (Below w.heap.size w w7) := Lib.hid (bl_then HBE.out HBE.out.size hb)
                clear hb HBE
                have HBE := HBE7
                obtain rfl : r = false := by cases r with | false => rfl | true => exact absurd (hr.1 rfl) hne
                clear hr hne
                go_wp2_with fail
                go_ret
                exact ⟨Tells.no rfl HXY.out (by simp [HNE.out]), (by first | exact HBE.out | exact hX ▸ HBE.out)⟩
            · have HNE : Hid (¬ ap = bp) := Lib.hid hne
              go_enter Try.func18, Try.ntmps18
              go_wp2_with fail
              refine (equal_bytes _ _ am am W HBA.out HBB.out).mono ?_
              rintro e w5 ⟨rfl, hww⟩
              subst w5
              rw [show decide (am = am) = true from decide_eq_true rfl]
              go_wp2_with fail
              refine (equal_i64 _ _ ap bp W HPA.out HPB.out).mono ?_
              rintro e w6 ⟨⟨r, rfl, hr⟩, hb⟩
              have HBE : Hid (Below w.heap.size w w6) := Lib.hid (bl_then HBW.out HBW.out.size hb)
              have y6 : w6.cell? ⟨X, 6, none⟩ = some (.slice A3 n3 c3) := (hb.cell (p := ⟨X, 6, none⟩) (by rw [hXW]; show X < X + 2; omega)).trans za6
              have x6 : w6.cell? ⟨X + 1, 6, none⟩ = some (.slice B3 m3 d3) := (hb.cell (p := ⟨X + 1, 6, none⟩) (by rw [hXW]; show X + 1 < X + 2; omega)).trans zb6
              have HTA6 := Lib.hid (HTA.out.below hb)
              have HTB6 := Lib.hid (HTB.out.below hb)
              have hs6 : X + 2 ≤ w6.heap.size := by have := hb.size; omega
              have hl6 : X < w6.heap.size := by omega
              have hl7 : X + 1 < w6.heap.size := by omega
              clear hb
              obtain rfl : r = false := by cases r with | false => rfl | true => exact absurd (hr.1 rfl) hne
              clear hr hne
              go_wp2_with fail
              go_ret
              exact ⟨Tells.no rfl HXY.out (by simp [HNE.out]), (by first | exact HBE.out | exact hX ▸ HBE.out)⟩
          · have HNE : Hid (¬ am = bm) := Lib.hid hne
            have HBE := HBW
            have hdc : decide (am = bm) = false := decide_eq_false hne
            go_enter Try.func18, Try.ntmps18
            go_wp2_with fail
            refine (equal_bytes _ _ am bm W HBA.out HBB.out).mono ?_
            rintro e w5 ⟨rfl, hww⟩
            subst w5
            rw [hdc]
            go_wp2_with fail
            go_ret
            exact ⟨Tells.no rfl HXY.out (by simp [HNE.out]), (by first | exact HBE.out | exact hX ▸ HBE.out)⟩
        · have hnb : (af == bf) = false := by simpa using hne
          have HNE : Hid (¬ af = bf) := Lib.hid hne
          have HBE := HBW
          go_enter Try.func18, Try.ntmps18
          go_wp2_with fail
          go_ret
          exact ⟨Tells.no rfl HXY.out (by simp [HNE.out]), (by first | exact HBE.out | exact hX ▸ HBE.out)⟩
      · have hnb : (av == bv) = false := by simpa using hne
        have HNE : Hid (¬ av = bv) := Lib.hid hne
        have HBE := HBW
        go_enter Try.func18, Try.ntmps18
        go_wp2_with fail
        go_ret
        exact ⟨Tells.no rfl HXY.out (by simp [HNE.out]), (by first | exact HBE.out | exact hX ▸ HBE.out)⟩
    · have hnb : (ac == bc) = false := by simpa using hne
      have HNE : Hid (¬ ac = bc) := Lib.hid hne
      have HBE := HBW
      go_enter Try.func18, Try.ntmps18
      go_wp2_with fail
      go_ret
      exact ⟨Tells.no rfl HXY.out (by simp [HNE.out]), (by first | exact HBE.out | exact hX ▸ HBE.out)⟩
  · have hnb : (ak == bk) = false := by simpa using hne
    have HNE : Hid (¬ ak = bk) := Lib.hid hne
    have HBE := HBW
    go_enter Try.func18, Try.ntmps18
    go_wp2_with fail
    go_ret
    exact ⟨Tells.no rfl HXY.out (by simp [HNE.out]), (by first | exact HBE.out | exact hX ▸ HBE.out)⟩
end Go.Proofs.Ytecgipccippddaa
