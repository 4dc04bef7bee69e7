/- What is proved: what Same and Lists of the reference answer on actions in memory; conditions: those typed. -/
import Derived.Test.YtecgipccippddaaVt8
import Derived.StillTailTactics
import Derived.Laws.StructEq
set_option linter.unusedSimpArgs false
set_option linter.unusedVariables false
namespace Go.Proofs.Ytecgipccippddaa
open Go.RowKit
set_option maxRecDepth 100000
set_option maxHeartbeats 8000000
/-- Numbers that are read. -/
def RR (k : IntKind) (w : World) (v : Value) (xs : List Int) : Prop := xs.length ≤ 140737488355328 ∧ ∃ A c, v = .slice A xs.length c ∧ RdI w k A xs.length xs
theorem RR.below {k : IntKind} {w w1 : World} {v : Value} {xs : List Int} (h : RR k w v xs) (hb : Below w.heap.size w w1) : RR k w1 v xs := by
  obtain ⟨h0, A, c, h1, hr⟩ := h
  exact ⟨h0, A, c, h1, hr.blocks fun b off hn hA => hb.block b (hr.lt_ hn hA)⟩
theorem RdO.rr {k : IntKind} {e : TypeId} {w : World} {base : Nat} {v : Value} {xs : List Int} (h : RdO k e w base v xs) (hl : xs.length ≤ 140737488355328) : RR k w v xs := by
  obtain ⟨A, c, h1, h2, _⟩ := h
  exact ⟨hl, A, c, h1, h2⟩
theorem RdO.bb {e : TypeId} {w : World} {base : Nat} {v : Value} {xs : List Int} (h : RdO .u8 e w base v xs) (hx : okB xs) (hl : xs.length ≤ 140737488355328) : BB w v xs := by
  obtain ⟨A, c, h1, h2, h3, h4, h5, _⟩ := h
  exact ⟨hx, hl, A, c, h1, h2, h3, h4, h5⟩
/-- An action that is read. -/
structure AR (w : World) (a : HA) : Prop where
  m : BB w a.vm a.mid
  p : RR .i64 w a.vp a.ps
  t : RR .i32 w a.vt a.tx
theorem AR.below {w w1 : World} {a : HA} (h : AR w a) (hb : Below w.heap.size w w1) : AR w1 a := ⟨h.m.below hb, h.p.below hb, h.t.below hb⟩
instance : DecidableEq Ac := fun x y =>
  if h : x.k = y.k ∧ x.ch = y.ch ∧ x.pv = y.pv ∧ x.fi = y.fi ∧ x.mid = y.mid ∧ x.ps = y.ps ∧ x.tx = y.tx then .isTrue (by cases x; cases y; simp_all) else .isFalse (fun e => h (by rw [e]; simp))
/-- Actions of a modest size. -/
structure AcOk (x : Ac) : Prop where
  mid : okB x.mid ∧ x.mid.length ≤ 1000
  ps : x.ps.length ≤ 1000
  tx : x.tx.length ≤ 1000
theorem AW.ar {w : World} {base : Nat} {a : HA} (h : AW w base a) (hk : AcOk a.ac) : AR w a :=
  ⟨h.m.bb hk.mid.1 (Nat.le_trans hk.mid.2 (by omega)), h.p.rr (Nat.le_trans hk.ps (by omega)), h.t.rr (Nat.le_trans hk.tx (by omega))⟩
/-- An answer that says whether something is so. -/
def Tells (e : Ending) (p : Prop) : Prop := ∃ r : Bool, e = .returned (.bool r) ∧ (r = true ↔ p)
theorem Tells.no {e : Ending} {p q : Prop} (he : e = .returned (.bool false)) (h : p ↔ q) (hq : ¬ q) : Tells e p := ⟨false, he, ⟨fun e => (by cases e), fun hp => absurd (h.1 hp) hq⟩⟩
theorem Tells.yes {e : Ending} {p q : Prop} (he : e = .returned (.bool true)) (h : p ↔ q) (hq : q) : Tells e p := ⟨true, he, ⟨fun _ => h.2 hq, fun _ => rfl⟩⟩
theorem ext_getD {xs ys : List Int} (hl : xs.length = ys.length) (h : ∀ j, j < xs.length → xs.getD j 0 = ys.getD j 0) : xs = ys := by
  refine List.ext_getElem? fun j => ?_
  by_cases hj : j < xs.length
  · have := h j hj
    rw [List.getD_eq_getElem?_getD, List.getD_eq_getElem?_getD, List.getElem?_eq_getElem hj, List.getElem?_eq_getElem (by omega)] at this
    rw [List.getElem?_eq_getElem hj, List.getElem?_eq_getElem (by omega)]
    exact congrArg some this
  · rw [List.getElem?_eq_none (by omega), List.getElem?_eq_none (by omega)]
theorem rsame_any (a b : HA) (w : World) (ha : AR w a) (hb : AR w b) :
    Calls Try.prog 19 #[.agg (arow a), .agg (arow b)] w fun e w' => Tells e (a.ac = b.ac) ∧ Below w.heap.size w w' := by
  obtain ⟨ak, ac, av, af, avm, avp, avt, am, ap, at'⟩ := a
  obtain ⟨bk, bc, bv, bf, bvm, bvp, bvt, bm, bp, bt⟩ := b
  obtain ⟨x0, hx0⟩ : ∃ x, HA.ac ⟨ak, ac, av, af, avm, avp, avt, am, ap, at'⟩ = x := ⟨_, rfl⟩
  obtain ⟨y0, hy0⟩ : ∃ x, HA.ac ⟨bk, bc, bv, bf, bvm, bvp, bvt, bm, bp, bt⟩ = x := ⟨_, rfl⟩
  have HXY : Hid (x0 = y0 ↔ (ak = bk ∧ ac = bc ∧ av = bv ∧ af = bf ∧ am = bm ∧ ap = bp ∧ at' = bt)) := Lib.hid (by rw [← hx0, ← hy0]; simp [HA.ac])
  rw [hx0, hy0]
  clear hx0 hy0
  simp only [arow]
  obtain ⟨am1, am2, A1, c1, h1, hr1⟩ := ha.m
  obtain ⟨bm1, bm2, B1, d1, k1, kr1⟩ := hb.m
  obtain ⟨_, A2, c2, h2, hr2⟩ := ha.p
  obtain ⟨_, B2, d2, k2, kr2⟩ := hb.p
  obtain ⟨_, A3, c3, h3, hr3⟩ := ha.t
  obtain ⟨_, B3, d3, k3, kr3⟩ := hb.t
  dsimp only at h1 k1 h2 k2 h3 k3 hr2 kr2 hr3 kr3 am1 am2 bm1 bm2
  obtain ⟨n1, hn1⟩ : ∃ n, am.length = n := ⟨_, rfl⟩
  obtain ⟨m1, hm1⟩ : ∃ n, bm.length = n := ⟨_, rfl⟩
  obtain ⟨n2, hn2⟩ : ∃ n, ap.length = n := ⟨_, rfl⟩
  obtain ⟨m2, hm2⟩ : ∃ n, bp.length = n := ⟨_, rfl⟩
  obtain ⟨n3, hn3⟩ : ∃ n, at'.length = n := ⟨_, rfl⟩
  obtain ⟨m3, hm3⟩ : ∃ n, bt.length = n := ⟨_, rfl⟩
  have HL : Hid (ap.length = n2 ∧ bp.length = m2 ∧ at'.length = n3 ∧ bt.length = m3 ∧ n2 ≤ 140737488355328 ∧ n3 ≤ 140737488355328) := Lib.hid ⟨hn2, hm2, hn3, hm3, by rw [← hn2]; exact ha.p.1, by rw [← hn3]; exact ha.t.1⟩
  rw [hn1] at h1
  rw [hm1] at k1
  rw [hn2] at h2 hr2
  rw [hm2] at k2 kr2
  rw [hn3] at h3 hr3
  rw [hm3] at k3 kr3
  subst h1 k1 h2 k2 h3 k3
  obtain ⟨X, hX⟩ : ∃ X, w.heap.size = X := ⟨_, rfl⟩
  obtain ⟨W0, hW0⟩ : ∃ W, w.alloc (.cells #[.int .u8 ak, .int .i32 ac, .int .u8 av, .int .u8 af, .slice A1 n1 c1, .slice A2 n2 c2, .slice A3 n3 c3] 31) = W := ⟨_, rfl⟩
  have hX0 : W0.heap.size = X + 1 := by rw [← hW0, ← hX]; simp
  obtain ⟨W, hW⟩ : ∃ W, W0.alloc (.cells #[.int .u8 bk, .int .i32 bc, .int .u8 bv, .int .u8 bf, .slice B1 m1 d1, .slice B2 m2 d2, .slice B3 m3 d3] 31) = W := ⟨_, rfl⟩
  have hXW : W.heap.size = X + 2 := by rw [← hW]; simp [hX0]
  have hb0 : Below w.heap.size w W0 := by rw [← hW0]; exact Below.alloc (Below.refl _ _) (Nat.le_refl _) _
  have HBW : Hid (Below w.heap.size w W) := Lib.hid (by rw [← hW]; exact Below.alloc hb0 hb0.size _)
  have HROW1 : Hid (W.heap[X]? = some (.cells #[.int .u8 ak, .int .i32 ac, .int .u8 av, .int .u8 af, .slice A1 n1 c1, .slice A2 n2 c2, .slice A3 n3 c3] 31 (0, 0))) := Lib.hid (by
    rw [← hW, heap_alloc_old _ _ (by omega), ← hW0, ← hX]; exact heap_alloc_last _ _)
  have HROW2 : Hid (W.heap[X + 1]? = some (.cells #[.int .u8 bk, .int .i32 bc, .int .u8 bv, .int .u8 bf, .slice B1 m1 d1, .slice B2 m2 d2, .slice B3 m3 d3] 31 (0, 0))) := Lib.hid (by
    rw [← hW, ← hX0]; exact heap_alloc_last _ _)
  have za0 : W.cell? ⟨X, 0, none⟩ = some (.int .u8 ak) := (cell_of_row _ _ _ _ _ _ HROW1.out).trans rfl
  have za1 : W.cell? ⟨X, 1, none⟩ = some (.int .i32 ac) := (cell_of_row _ _ _ _ _ _ HROW1.out).trans rfl
  have za2 : W.cell? ⟨X, 2, none⟩ = some (.int .u8 av) := (cell_of_row _ _ _ _ _ _ HROW1.out).trans rfl
  have za3 : W.cell? ⟨X, 3, none⟩ = some (.int .u8 af) := (cell_of_row _ _ _ _ _ _ HROW1.out).trans rfl
  have za4 : W.cell? ⟨X, 4, none⟩ = some (.slice A1 n1 c1) := (cell_of_row _ _ _ _ _ _ HROW1.out).trans rfl
  have za5 : W.cell? ⟨X, 5, none⟩ = some (.slice A2 n2 c2) := (cell_of_row _ _ _ _ _ _ HROW1.out).trans rfl
  have za6 : W.cell? ⟨X, 6, none⟩ = some (.slice A3 n3 c3) := (cell_of_row _ _ _ _ _ _ HROW1.out).trans rfl
  have zb0 : W.cell? ⟨X + 1, 0, none⟩ = some (.int .u8 bk) := (cell_of_row _ _ _ _ _ _ HROW2.out).trans rfl
  have zb1 : W.cell? ⟨X + 1, 1, none⟩ = some (.int .i32 bc) := (cell_of_row _ _ _ _ _ _ HROW2.out).trans rfl
  have zb2 : W.cell? ⟨X + 1, 2, none⟩ = some (.int .u8 bv) := (cell_of_row _ _ _ _ _ _ HROW2.out).trans rfl
  have zb3 : W.cell? ⟨X + 1, 3, none⟩ = some (.int .u8 bf) := (cell_of_row _ _ _ _ _ _ HROW2.out).trans rfl
  have zb4 : W.cell? ⟨X + 1, 4, none⟩ = some (.slice B1 m1 d1) := (cell_of_row _ _ _ _ _ _ HROW2.out).trans rfl
  have zb5 : W.cell? ⟨X + 1, 5, none⟩ = some (.slice B2 m2 d2) := (cell_of_row _ _ _ _ _ _ HROW2.out).trans rfl
  have zb6 : W.cell? ⟨X + 1, 6, none⟩ = some (.slice B3 m3 d3) := (cell_of_row _ _ _ _ _ _ HROW2.out).trans rfl
  have e1 := bytes_str (ha.m.below HBW.out)
  have e2 := bytes_str (hb.m.below HBW.out)
  dsimp only at e1 e2
  have e3 := str_inj am1 bm1
  have e4 : ((strOfNums am).toList == (strOfNums bm).toList) = decide (am = bm) := by
    rw [ByteArray.toList_eq, ByteArray.toList_eq]
    rw [Bool.eq_iff_iff, beq_iff_eq, decide_eq_true_iff, ← e3]
    exact ⟨fun h => by simpa [strOfNums] using h, fun h => by rw [h]⟩
  have HR2 := Lib.hid (hr2.blocks fun b off hn hA => HBW.out.block b (hr2.lt_ hn hA))
  have HS2 := Lib.hid (kr2.blocks fun b off hn hA => HBW.out.block b (kr2.lt_ hn hA))
  have HR3 := Lib.hid (hr3.blocks fun b off hn hA => HBW.out.block b (hr3.lt_ hn hA))
  have HS3 := Lib.hid (kr3.blocks fun b off hn hA => HBW.out.block b (kr3.lt_ hn hA))
  clear ha hb hr1 kr1 hr2 kr2 hr3 kr3 am1 am2 bm1 bm2 hn1 hm1 hn2 hm2 hn3 hm3 hb0 e3
  rcases Decidable.em (ak = bk) with rfl | hne
  · rcases Decidable.em (ac = bc) with rfl | hne
    · rcases Decidable.em (av = bv) with rfl | hne
      · rcases Decidable.em (af = bf) with rfl | hne
        · rcases Decidable.em (am = bm) with rfl | hne
          · rcases Decidable.em (n2 = m2) with rfl | hne
            · rcases Decidable.em (n3 = m3) with rfl | hne
              · go_enter Try.func19, Try.ntmps19
                go_wp2_with fail
                go_loopw [5] (fun i wr => ∃ k : Nat, k ≤ n2 ∧ i = .int .i64 k ∧ Hid (Below W.heap.size W wr) ∧ Hid (∀ j, j < k → ap.getD j 0 = bp.getD j 0)) (fun i _ => n2 - (intOf i).toNat)
                case atStart => exact ⟨0, by omega, rfl, Lib.hid (Below.refl _ _), Lib.hid (fun j hj => by omega)⟩
                case round =>
                  obtain ⟨k, hk, rfl, HB, HK⟩ := hrel
                  have za : wr.cell? ⟨X, 5, none⟩ = some (.slice A2 n2 c2) := (HB.out.cell (p := ⟨X, 5, none⟩) (by rw [hXW]; show X < X + 2; omega)).trans za5
                  have zb : wr.cell? ⟨X + 1, 5, none⟩ = some (.slice B2 n2 d2) := (HB.out.cell (p := ⟨X + 1, 5, none⟩) (by rw [hXW]; show X + 1 < X + 2; omega)).trans zb5
                  have hln : n2 ≤ 140737488355328 := by have := HL.out; omega
                  have hlx : X < wr.heap.size := by have := HB.out.size; omega
                  have hly : X + 1 < wr.heap.size := by have := HB.out.size; omega
                  by_cases hkn : k < n2
                  · have hki : (k : Int) < (n2 : Int) := by omega
                    have hk0 : (0 : Int) ≤ (k : Int) := by omega
                    obtain ⟨b1, o1, hA, hc1⟩ := (HR2.out.blocks (w1 := wr) fun b off hn hA => HB.out.block b (HR2.out.lt_ hn hA)).2 (by omega)
                    obtain ⟨b2, o2, hB, hc2⟩ := (HS2.out.blocks (w1 := wr) fun b off hn hA => HB.out.block b (HS2.out.lt_ hn hA)).2 (by omega)
                    have dx := hc1 k hkn
                    have dy := hc2 k hkn
                    subst hA hB
                    obtain ⟨x, hx⟩ : ∃ x, ap.getD k 0 = x := ⟨_, rfl⟩
                    obtain ⟨y, hy⟩ : ∃ y, bp.getD k 0 = y := ⟨_, rfl⟩
                    rw [hx] at dx
                    rw [hy] at dy
                    have HX := Lib.hid hx
                    have HY := Lib.hid hy
                    clear hx hy hc1 hc2
                    rcases Decidable.em (x = y) with rfl | hne
                    · have HK2 : Hid (∀ j, j < k + 1 → ap.getD j 0 = bp.getD j 0) := Lib.hid (fun j hj => by
                        rcases (by omega : j < k ∨ j = k) with h | rfl
                        · exact HK.out j h
                        · rw [HX.out, HY.out])
                      have HB9 : Hid (Below W.heap.size W wr.drew) := Lib.hid HB.out.drew
                      go_wp2_with (go_still (by kernel_rfl))
                      go_roundw
                      case rel =>
                        first
                          | exact ⟨k + 1, by omega, by go_num, HB9, HK2⟩
                          | ((repeat apply Exists.intro); refine ⟨?_, rfl⟩; exact ⟨k + 1, by omega, by go_num, HB9, HK2⟩)
                      case measure => first | (simp [intOf]; done) | (simp [intOf]; omega)
                    · have hnb : (x != y) = true := by simpa using hne
                      have HNE : Hid (¬ ap = bp) := Lib.hid (fun e => hne (by rw [← HX.out, ← HY.out, e]))
                      have HB9 : Hid (Below w.heap.size w wr.drew) := Lib.hid (bl_then HBW.out HBW.out.size HB.out).drew
                      go_wp2_with (go_still (by kernel_rfl))
                      go_ret
                      exact ⟨Tells.no rfl HXY.out (by simp [HNE.out]), HB9.out⟩
                  · have hki : ¬ (k : Int) < (n2 : Int) := by omega
                    have HEQ : Hid (ap = bp) := Lib.hid (ext_getD (by rw [HL.out.1, HL.out.2.1]) (fun j hj => HK.out j (by have := HL.out.1; omega)))
                    have HB0 := HB
                    have HEQ1 := HEQ
                    clear HEQ HB HK
                    go_wp2_with fail
                    go_loopw [6] (fun i wr => ∃ k : Nat, k ≤ n3 ∧ i = .int .i64 k ∧ Hid (Below W.heap.size W wr) ∧ Hid (∀ j, j < k → at'.getD j 0 = bt.getD j 0)) (fun i _ => n3 - (intOf i).toNat)
                    case atStart => exact ⟨0, by omega, rfl, Lib.hid (HB0.out), Lib.hid (fun j hj => by omega)⟩
                    case round =>
                      obtain ⟨k, hk, rfl, HB, HK⟩ := hrel
                      have za : wr.cell? ⟨X, 6, none⟩ = some (.slice A3 n3 c3) := (HB.out.cell (p := ⟨X, 6, none⟩) (by rw [hXW]; show X < X + 2; omega)).trans za6
                      have zb : wr.cell? ⟨X + 1, 6, none⟩ = some (.slice B3 n3 d3) := (HB.out.cell (p := ⟨X + 1, 6, none⟩) (by rw [hXW]; show X + 1 < X + 2; omega)).trans zb6
                      have hln : n3 ≤ 140737488355328 := by have := HL.out; omega
                      have hlx : X < wr.heap.size := by have := HB.out.size; omega
                      have hly : X + 1 < wr.heap.size := by have := HB.out.size; omega
                      by_cases hkn : k < n3
                      · have hki : (k : Int) < (n3 : Int) := by omega
                        have hk0 : (0 : Int) ≤ (k : Int) := by omega
                        obtain ⟨b1, o1, hA, hc1⟩ := (HR3.out.blocks (w1 := wr) fun b off hn hA => HB.out.block b (HR3.out.lt_ hn hA)).2 (by omega)
                        obtain ⟨b2, o2, hB, hc2⟩ := (HS3.out.blocks (w1 := wr) fun b off hn hA => HB.out.block b (HS3.out.lt_ hn hA)).2 (by omega)
                        have dx := hc1 k hkn
                        have dy := hc2 k hkn
                        subst hA hB
                        obtain ⟨x, hx⟩ : ∃ x, at'.getD k 0 = x := ⟨_, rfl⟩
                        obtain ⟨y, hy⟩ : ∃ y, bt.getD k 0 = y := ⟨_, rfl⟩
                        rw [hx] at dx
                        rw [hy] at dy
                        have HX := Lib.hid hx
                        have HY := Lib.hid hy
                        clear hx hy hc1 hc2
                        rcases Decidable.em (x = y) with rfl | hne
                        · have HK2 : Hid (∀ j, j < k + 1 → at'.getD j 0 = bt.getD j 0) := Lib.hid (fun j hj => by
                            rcases (by omega : j < k ∨ j = k) with h | rfl
                            · exact HK.out j h
                            · rw [HX.out, HY.out])
                          have HB9 : Hid (Below W.heap.size W wr.drew) := Lib.hid HB.out.drew
                          go_wp2_with (go_still (by kernel_rfl))
                          go_roundw
                          case rel =>
                            first
                              | exact ⟨k + 1, by omega, by go_num, HB9, HK2⟩
                              | ((repeat apply Exists.intro); refine ⟨?_, rfl⟩; exact ⟨k + 1, by omega, by go_num, HB9, HK2⟩)
                          case measure => first | (simp [intOf]; done) | (simp [intOf]; omega)
                        · have hnb : (x != y) = true := by simpa using hne
                          have HNE : Hid (¬ at' = bt) := Lib.hid (fun e => hne (by rw [← HX.out, ← HY.out, e]))
                          have HB9 : Hid (Below w.heap.size w wr.drew) := Lib.hid (bl_then HBW.out HBW.out.size HB.out).drew
                          go_wp2_with (go_still (by kernel_rfl))
                          go_ret
                          exact ⟨Tells.no rfl HXY.out (by simp [HNE.out]), HB9.out⟩
                      · have hki : ¬ (k : Int) < (n3 : Int) := by omega
                        have HEQ : Hid (at' = bt) := Lib.hid (ext_getD (by rw [HL.out.2.2.1, HL.out.2.2.2.1]) (fun j hj => HK.out j (by have := HL.out.2.2.1; omega)))
                        have HB9 : Hid (Below w.heap.size w wr) := Lib.hid (bl_then HBW.out HBW.out.size HB.out)
                        go_wp2_with fail
                        go_ret
                        exact ⟨Tells.yes rfl HXY.out (by simp [HEQ1.out, HEQ.out]), (by first | exact HB9.out | exact hX ▸ HB9.out)⟩
              · have hnb : (((n3 : Nat) : Int) != ((m3 : Nat) : Int)) = true := by simp; omega
                have HNE : Hid (¬ at' = bt) := Lib.hid (fun e => hne (by have h1 := HL.out; rw [e] at h1; omega))
                go_enter Try.func19, Try.ntmps19
                go_wp2_with fail
                go_ret
                exact ⟨Tells.no rfl HXY.out (by simp [HNE.out]), (by first | exact HBW.out | exact hX ▸ HBW.out)⟩
            · have hnb : (((n2 : Nat) : Int) != ((m2 : Nat) : Int)) = true := by simp; omega
              have HNE : Hid (¬ ap = bp) := Lib.hid (fun e => hne (by have h1 := HL.out; rw [e] at h1; omega))
              go_enter Try.func19, Try.ntmps19
              go_wp2_with fail
              go_ret
              exact ⟨Tells.no rfl HXY.out (by simp [HNE.out]), (by first | exact HBW.out | exact hX ▸ HBW.out)⟩
          · have e5 : ((strOfNums am).toList == (strOfNums bm).toList) = false := by rw [e4]; simp [hne]
            clear e4
            have HNE : Hid (¬ am = bm) := Lib.hid hne
            go_enter Try.func19, Try.ntmps19
            go_wp2_with fail
            go_ret
            exact ⟨Tells.no rfl HXY.out (by simp [HNE.out]), (by first | exact HBW.out | exact hX ▸ HBW.out)⟩
        · have hnb : (af != bf) = true := by simpa using hne
          have HNE : Hid (¬ af = bf) := Lib.hid hne
          go_enter Try.func19, Try.ntmps19
          go_wp2_with fail
          go_ret
          exact ⟨Tells.no rfl HXY.out (by simp [HNE.out]), (by first | exact HBW.out | exact hX ▸ HBW.out)⟩
      · have hnb : (av != bv) = true := by simpa using hne
        have HNE : Hid (¬ av = bv) := Lib.hid hne
        go_enter Try.func19, Try.ntmps19
        go_wp2_with fail
        go_ret
        exact ⟨Tells.no rfl HXY.out (by simp [HNE.out]), (by first | exact HBW.out | exact hX ▸ HBW.out)⟩
    · have hnb : (ac != bc) = true := by simpa using hne
      have HNE : Hid (¬ ac = bc) := Lib.hid hne
      go_enter Try.func19, Try.ntmps19
      go_wp2_with fail
      go_ret
      exact ⟨Tells.no rfl HXY.out (by simp [HNE.out]), (by first | exact HBW.out | exact hX ▸ HBW.out)⟩
  · have hnb : (ak != bk) = true := by simpa using hne
    have HNE : Hid (¬ ak = bk) := Lib.hid hne
    go_enter Try.func19, Try.ntmps19
    go_wp2_with fail
    go_ret
    exact ⟨Tells.no rfl HXY.out (by simp [HNE.out]), (by first | exact HBW.out | exact hX ▸ HBW.out)⟩
theorem OwA.slice7 {w : World} {base : Nat} {v : Value} {L : List HA} (h : OwA w base v L) : ∃ A c, v = .slice A L.length c ∧ ∀ (k : Nat) (a : HA), L[k]? = some a → ∃ g cur, A = some ⟨g, 0, none⟩ ∧ w.heap[g]? = some (.cells cur 31 (0, 0)) ∧ ∀ j u, (arow a).toList[j]? = some u → cur[k * 7 + j]? = some u := by
  obtain ⟨hl, hr⟩ := h.row
  rcases hr with ⟨h1, h2⟩ | ⟨g, cap, cur, h1, hb, hh, h4, h5, h6, h7⟩
  · refine ⟨none, 0, by rw [h1, h2], fun k a hk => ?_⟩
    rw [List.eq_nil_of_length_eq_zero h2] at hk
    simp at hk
  · refine ⟨_, cap, h1, fun k a hk => ⟨g, cur, rfl, hh, fun j u hu => ?_⟩⟩
    have hj : j < 7 := by have := (List.getElem?_eq_some_iff.1 hu).1; simpa [arow] using this
    rw [← hu, Nat.mul_comm k 7, Array.getElem?_toList]
    have hkl : k < L.length := (List.getElem?_eq_some_iff.1 hk).1
    have e := congrArg (fun l => l[7 * k + j]?) h7
    rw [List.getElem?_take_of_lt (by omega), Array.getElem?_toList] at e
    rw [e]
    have hfl : ∀ (M : List HA) (k : Nat), M[k]? = some a → (flatA M)[7 * k + j]? = (arow a)[j]? := by
      intro M
      induction M with
      | nil => intro k hk; simp at hk
      | cons x M ih =>
        intro k hk
        have e : flatA (x :: M) = (arow x).toList ++ flatA M := rfl
        have hxl : (arow x).toList.length = 7 := rfl
        rw [e]
        cases k with
        | zero =>
          simp only [List.getElem?_cons_zero, Option.some.injEq] at hk
          subst hk
          rw [List.getElem?_append_left (by rw [hxl]; omega), Nat.mul_zero, Nat.zero_add, Array.getElem?_toList]
        | succ k =>
          rw [List.getElem?_append_right (by rw [hxl]; omega), hxl]
          have : 7 * (k + 1) + j - 7 = 7 * k + j := by omega
          rw [this]
          exact ih k (by simpa using hk)
    exact hfl L k hk
theorem rlists_any (b1 b2 : Nat) (v1 v2 : Value) (L M : List HA) (w : World) (h1 : OwA w b1 v1 L) (h2 : OwA w b2 v2 M) (ok1 : ∀ a ∈ L, AcOk a.ac) (ok2 : ∀ a ∈ M, AcOk a.ac) (hl : L.length ≤ 1048577) :
    Calls Try.prog 12 #[v1, v2] w fun e w' => Tells e (L.map HA.ac = M.map HA.ac) ∧ Below w.heap.size w w' := by
  obtain ⟨n, hn⟩ : ∃ n, L.length = n := ⟨_, rfl⟩
  obtain ⟨m, hm⟩ : ∃ n, M.length = n := ⟨_, rfl⟩
  obtain ⟨A1, c1, hv1, hr1⟩ := h1.slice7
  obtain ⟨A2, c2, hv2, hr2⟩ := h2.slice7
  rw [hn] at hv1 hl
  rw [hm] at hv2
  subst hv1
  subst hv2
  have HL := Lib.hid (show L.length = n ∧ M.length = m from ⟨hn, hm⟩)
  have H1 := Lib.hid h1
  have H2 := Lib.hid h2
  have HR1 := Lib.hid hr1
  have HR2 := Lib.hid hr2
  have HO1 := Lib.hid ok1
  have HO2 := Lib.hid ok2
  clear h1 h2 hr1 hr2 ok1 ok2 hn hm
  rcases Decidable.em (n = m) with rfl | hne
  · go_enter Try.func12, Try.ntmps12
    go_wp2_with fail
    go_loopw [5] (fun i wr => ∃ k : Nat, k ≤ n ∧ i = .int .i64 k ∧ Hid (Below w.heap.size w wr) ∧ Hid (∀ j, j < k → (L.map HA.ac)[j]? = (M.map HA.ac)[j]?)) (fun i _ => n - (intOf i).toNat)
    case atStart => exact ⟨0, by omega, rfl, Lib.hid (Below.refl _ _), Lib.hid (fun j hj => by omega)⟩
    case round =>
      obtain ⟨k, hk, rfl, HB, HK⟩ := hrel
      by_cases hkn : k < n
      · have hki : (k : Int) < (n : Int) := by omega
        have hk0 : (0 : Int) ≤ (k : Int) := by omega
        obtain ⟨p, hp⟩ : ∃ p, L[k]? = some p := ⟨_, List.getElem?_eq_getElem (by rw [HL.out.1]; exact hkn)⟩
        obtain ⟨q, hq⟩ : ∃ q, M[k]? = some q := ⟨_, List.getElem?_eq_getElem (by rw [HL.out.2]; exact hkn)⟩
        obtain ⟨g1, cur1, rfl, hg1, hc1⟩ := HR1.out k p hp
        obtain ⟨g2, cur2, rfl, hg2, hc2⟩ := HR2.out k q hq
        have HAR1 := Lib.hid ((H1.out.acts p (List.mem_of_getElem? hp)).ar (HO1.out p (List.mem_of_getElem? hp)))
        have HAR2 := Lib.hid ((H2.out.acts q (List.mem_of_getElem? hq)).ar (HO2.out q (List.mem_of_getElem? hq)))
        have HG1 := Lib.hid hg1
        have HG2 := Lib.hid hg2
        have HC1 := Lib.hid hc1
        have HC2 := Lib.hid hc2
        have HPQ := Lib.hid (show L[k]? = some p ∧ M[k]? = some q from ⟨hp, hq⟩)
        clear hp hq hg1 hg2 hc1 hc2
        have HEQ : Hid (p.ac = q.ac → ∀ j, j < k + 1 → (L.map HA.ac)[j]? = (M.map HA.ac)[j]?) := Lib.hid (fun e j hj => by
          rcases (by omega : j < k ∨ j = k) with h | rfl
          · exact HK.out j h
          · simp [HPQ.out.1, HPQ.out.2, e])
        have HNQ : Hid (¬ p.ac = q.ac → ¬ L.map HA.ac = M.map HA.ac) := Lib.hid (fun hne e => hne (by
          have h := congrArg (fun l => l[k]?) e
          simp only [List.getElem?_map, HPQ.out.1, HPQ.out.2, Option.map_some, Option.some.injEq] at h
          exact h))
        obtain ⟨rr, hrr⟩ : ∃ r : Bool, decide (p.ac = q.ac) = r := ⟨_, rfl⟩
        have HRR := Lib.hid hrr
        clear hrr
        go_wp2_with fail
        apply wp_region_effT _ _ (Inv.start0 wr fun _ => False) (hm := by kernel_rfl)
        case h =>
          (apply SeqF.pure; (focus (first | rfl | (go_simp; done) | (simp [Region.wanted, yielded]; done))); (focus (intro w; go_simp; with_reducible rfl)); go_simp)
          (apply SeqF.pure; (focus (first | rfl | (go_simp; done) | (simp [Region.wanted, yielded]; done))); (focus (intro w; go_simp; with_reducible rfl)); go_simp)
          (apply SeqF.pure; (focus (first | rfl | (go_simp; done) | (simp [Region.wanted, yielded]; done))); (focus (intro w; go_simp; with_reducible rfl)); go_simp)
          apply SeqF.read (v := .agg (arow p)) []
          · (first | rfl | (go_simp; done) | (simp [Region.wanted, yielded]; done))
          · exact fun γ' W hg hI => exec_load rfl rfl (run_load_at actInfo actRow ((hI.far g1 (by have := lt_of_heap HG1.out; have := HB.out.size; omega) (fun h => h)).trans ((HB.out.block g1 (lt_of_heap HG1.out)).trans HG1.out)) HC1.out)
          go_simp
          (apply SeqF.pure; (focus (first | rfl | (go_simp; done) | (simp [Region.wanted, yielded]; done))); (focus (intro w; go_simp; with_reducible rfl)); go_simp)
          (apply SeqF.pure; (focus (first | rfl | (go_simp; done) | (simp [Region.wanted, yielded]; done))); (focus (intro w; go_simp; with_reducible rfl)); go_simp)
          (apply SeqF.pure; (focus (first | rfl | (go_simp; done) | (simp [Region.wanted, yielded]; done))); (focus (intro w; go_simp; with_reducible rfl)); go_simp)
          apply SeqF.read (v := .agg (arow q)) []
          · (first | rfl | (go_simp; done) | (simp [Region.wanted, yielded]; done))
          · exact fun γ' W hg hI => exec_load rfl rfl (run_load_at actInfo actRow ((hI.far g2 (by have := lt_of_heap HG2.out; have := HB.out.size; omega) (fun h => h)).trans ((HB.out.block g2 (lt_of_heap HG2.out)).trans HG2.out)) HC2.out)
          go_simp
          apply SeqF.call (v := .bool rr) [] 19 #[.agg (arow p), .agg (arow q)]
          · (first | rfl | (go_simp; done) | (simp [Region.wanted, yielded]; done))
          · intro w; kernel_rfl
          · intro γ' U hg hI
            have hU : Below w.heap.size w U := hI.belowS HB.out HB.out.size (fun _ h => h.elim)
            refine (rsame_any p q U (HAR1.out.below hU) (HAR2.out.below hU)).mono ?_
            rintro e w' ⟨⟨r, rfl, hr⟩, hb⟩
            exact ⟨by rw [← HRR.out]; exact congrArg (fun b => Ending.returned (.bool b)) (by rw [Bool.eq_iff_iff, hr, decide_eq_true_iff]), hI.below hb⟩
          go_simp
          (apply SeqF.pure; (focus (first | rfl | (go_simp; done) | (simp [Region.wanted, yielded]; done))); (focus (intro w; go_simp; with_reducible rfl)); go_simp)
          apply SeqF.done
          intro w9 hI9
          have HB9 := Lib.hid (hI9.belowS HB.out HB.out.size (fun _ h => h.elim))
          clear hI9
          cases rr with
          | true =>
            have HE2 := Lib.hid (HEQ.out (of_decide_eq_true HRR.out))
            clear HEQ HNQ HRR
            go_simp
            go_wp2_with fail
            go_roundw
            case rel =>
              first
                | exact ⟨k + 1, by omega, by go_num, HB9, HE2⟩
                | ((repeat apply Exists.intro); refine ⟨?_, rfl⟩; exact ⟨k + 1, by omega, by go_num, HB9, HE2⟩)
            case measure => first | (simp [intOf]; done) | (simp [intOf]; omega)
          | false =>
            have HE2 := Lib.hid (HNQ.out (of_decide_eq_false HRR.out))
            clear HEQ HNQ HRR
            go_simp
            go_wp2_with fail
            go_ret
            exact ⟨Tells.no rfl Iff.rfl HE2.out, HB9.out⟩
        case hl => rfl
        case ho => kernel_rfl
      · have hki : ¬ (k : Int) < (n : Int) := by omega
        have HEQ : Hid (L.map HA.ac = M.map HA.ac) := Lib.hid (List.ext_getElem? fun j => by
          by_cases hj : j < k
          · exact HK.out j hj
          · have := HL.out
            rw [List.getElem?_eq_none (by simp; omega), List.getElem?_eq_none (by simp; omega)])
        go_wp2_with fail
        go_ret
        exact ⟨Tells.yes rfl Iff.rfl HEQ.out, HB.out⟩
  · have hnb : (((n : Nat) : Int) != ((m : Nat) : Int)) = true := by simp; omega
    have HNE : Hid (¬ L.map HA.ac = M.map HA.ac) := Lib.hid (fun e => hne (by have h1 := HL.out; have h2 := congrArg List.length e; simp at h2; omega))
    go_enter Try.func12, Try.ntmps12
    go_wp2_with fail
    go_ret
    exact ⟨Tells.no rfl Iff.rfl HNE.out, Below.refl _ _⟩
end Go.Proofs.Ytecgipccippddaa
