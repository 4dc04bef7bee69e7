/- What is proved: anchored of the statements of cell answers true; no condition. -/
import Derived.Test.YtlejmllacikmeaaCell6
import Derived.Test.YtlejmllacikmeaaCell5
import Derived.Test.YtlejmllacikmeaaCell4
set_option linter.unusedSimpArgs false
set_option linter.unusedVariables false
namespace Go.Proofs.Ytlejmllacikmeaa
open Go.RowKit
set_option maxRecDepth 100000
set_option maxHeartbeats 4000000
theorem wpList_ldSg {ops : Array Oper} {rest : List Oper} {o : Oper} {a : Act} {Q : Exit → Act → World → Prop} {w : World} {g : Nat} {s : Sty} {t : TypeId} (hw : Region.wanted o (yielded ops a.tmps) = true) (x : Operand) (ho : o.op = .load 23 x)
    (hx : a.eval x = .pointer (some ⟨g, 0, none⟩)) (hg : w.heap[g]? = some (.cells s.row t (0, 0))) (h : wpList Try.prog ops Q rest (a.put o.dst s.val) w) : wpList Try.prog ops Q (o :: rest) a w := by
  unfold wpList
  rw [if_pos hw]
  refine .inl ?_
  have hr := exec_load (P := Try.prog) (o := o) (a := a) ho hx (run_load_sty hg)
  unfold Oper.wp
  rw [hr]
  exact h
theorem anchored_any (w : World) : Calls Try.prog 8 #[] w fun e w' => e = .returned (.bool true) ∧ Below w.heap.size w w' := by
  have k1 : applyS plainS [1, 31] = ⟨1, -1, 1⟩ := by kernel_rfl
  have k2 : applyS ⟨1, -1, 1⟩ [38, 5, 200, 4] = ⟨200, -1, 9⟩ := by kernel_rfl
  have k3 : applyS ⟨1, -1, 1⟩ [] = plainS := by kernel_rfl
  have k4 : putS 20013 plainS = [⟨20013, 0, 0, 0, 2, plainS⟩, ⟨0, 0, 0, 0, 0, plainS⟩] := by kernel_rfl
  obtain ⟨s1, hs1⟩ : ∃ s, s = Sty.mk 1 (-1) 1 := ⟨_, rfl⟩
  obtain ⟨s2, hs2⟩ : ∃ s, s = Sty.mk 200 (-1) 9 := ⟨_, rfl⟩
  have q1 : ∀ w, (binOp .eql 23 s1.val (.agg #[.int .i64 1, .int .i64 (-1), .bool true, .bool false, .bool false, .bool false, .bool false, .bool false, .bool false, .bool false])).run Try.prog w = .ok (.bool true) w := fun w => by rw [hs1]; exact eqSty w ⟨1, -1, 1⟩ ⟨1, -1, 1⟩ (by decide) (by decide)
  have q2 : ∀ w, (binOp .eql 23 plainS.val plainS.val).run Try.prog w = .ok (.bool true) w := fun w => eqSty w plainS plainS (by decide) (by decide)
  have q3 : ∀ w, (binOp .eql 23 s2.val (.agg #[.int .i64 200, .int .i64 (-1), .bool true, .bool false, .bool false, .bool true, .bool false, .bool false, .bool false, .bool false])).run Try.prog w = .ok (.bool true) w := fun w => by rw [hs2]; exact eqSty w ⟨200, -1, 9⟩ ⟨200, -1, 9⟩ (by decide) (by decide)
  have g1 : ∀ w x y, (eqGuard .eql 23 x y s1.val (.agg #[.int .i64 1, .int .i64 (-1), .bool true, .bool false, .bool false, .bool false, .bool false, .bool false, .bool false, .bool false])).run Try.prog w = .ok () w := fun w x y => run_eqGuard_agg w .eql 23 x y s1.row _ (by kernel_rfl)
  have g2 : ∀ w x y, (eqGuard .eql 23 x y plainS.val plainS.val).run Try.prog w = .ok () w := fun w x y => grdSty w .eql x y plainS plainS
  have g3 : ∀ w x y, (eqGuard .eql 23 x y s2.val (.agg #[.int .i64 200, .int .i64 (-1), .bool true, .bool false, .bool false, .bool true, .bool false, .bool false, .bool false, .bool false])).run Try.prog w = .ok () w := fun w x y => run_eqGuard_agg w .eql 23 x y s2.row _ (by kernel_rfl)
  rw [← hs1] at k1 k2 k3
  rw [← hs2] at k2
  have hb1 : s1.b < 256 := by rw [hs1]; decide
  clear hs1 hs2
  have HK1 := Lib.hid k1
  have HK2 := Lib.hid k2
  have HK3 := Lib.hid k3
  have HK4 := Lib.hid k4
  clear k1 k2 k3 k4
  obtain ⟨B, hB⟩ : ∃ B, w.heap.size = B := ⟨_, rfl⟩
  go_enter Try.func8, Try.ntmps8
  go_wp2_with fail
  refine (plain_any _).mono ?_
  rintro e w1 ⟨rfl, hb⟩
  have HL1 : Hid (Below B w w1) := Lib.hid (by rw [← hB]; exact hb)
  have hB1 : B ≤ w1.heap.size := by rw [← hB]; exact hb.size
  clear hb
  go_wp2_with fail
  refine (apply_any plainS (some ⟨w1.heap.size, 0, none⟩) 2 2 [1, 31] _ (by decide) (by decide) (RdI.new w1 .i64 3 [1, 31] 2 rfl) (by omega)).mono ?_
  rintro e w2 ⟨rfl, hb⟩
  rw [HK1.out]
  have HL2 : Hid (Below B w w2) := Lib.hid (bl_then (HL1.out.alloc hB1 _) (by simp; omega) hb)
  have hB2 : B ≤ w2.heap.size := by have := hb.size; simp at this; omega
  clear hb HL1
  have HA1 : Hid ((w2.alloc (.cells #[.int .i64 0, .int .i64 0, .bool false, .bool false, .bool false, .bool false, .bool false, .bool false, .bool false, .bool false] 23)).heap[w2.heap.size]? = some (.cells zeroS.row 23 (0, 0))) := Lib.hid (heap_alloc_last _ _)
  obtain ⟨T1, hT1⟩ : ∃ T, w2.heap.size = T := ⟨_, rfl⟩
  rw [hT1] at HA1
  have HW1 : Hid (((w2.alloc (.cells #[.int .i64 0, .int .i64 0, .bool false, .bool false, .bool false, .bool false, .bool false, .bool false, .bool false, .bool false] 23)).setRow T1 s1.row).heap[T1]? = some (.cells s1.row 23 (0, 0))) := Lib.hid (setRow_heap _ _ _ _ _ _ HA1.out)
  have HLW1 : Hid (Below B w ((w2.alloc (.cells #[.int .i64 0, .int .i64 0, .bool false, .bool false, .bool false, .bool false, .bool false, .bool false, .bool false, .bool false] 23)).setRow T1 s1.row)) := Lib.hid (below_setRow (HL2.out.alloc hB2 _) (by omega) _)
  go_wp2_with (first | (with_reducible refine wpList_stS rfl (.tmp 1) (.tmp 6) rfl rfl rfl HA1.out ?_) | (with_reducible refine wpList_ldS rfl (.tmp 1) rfl rfl HW1.out ?_))
  have hz1 : ((w2.alloc (.cells #[.int .i64 0, .int .i64 0, .bool false, .bool false, .bool false, .bool false, .bool false, .bool false, .bool false, .bool false] 23)).setRow T1 s1.row).heap.size = T1 + 1 := by simp [hT1]
  generalize (w2.alloc (.cells #[.int .i64 0, .int .i64 0, .bool false, .bool false, .bool false, .bool false, .bool false, .bool false, .bool false, .bool false] 23)).setRow T1 s1.row = W1 at *
  clear HL2 HA1
  have HR1 := Lib.hid (RdI.new W1 .i64 3 [38, 5, 200, 4] 4 rfl)
  rw [hz1] at HR1
  refine (apply_any s1 (some ⟨T1 + 1, 0, none⟩) 4 4 [38, 5, 200, 4] _ hb1 (by decide) HR1.out (by omega)).mono ?_
  rintro e w3 ⟨rfl, hb⟩
  rw [HK2.out]
  have hlT1 := lt_of_heap HW1.out
  have HT1 : Hid (w3.heap[T1]? = some (.cells s1.row 23 (0, 0))) := Lib.hid ((hb.block T1 (by simp; omega)).trans (by rw [heap_alloc_if, if_neg (by omega)]; exact HW1.out))
  have HL3 : Hid (Below B w w3) := Lib.hid (bl_then (HLW1.out.alloc (by omega) _) (by simp; omega) hb)
  have hB3 : T1 < w3.heap.size := lt_of_heap HT1.out
  clear hb HW1 HLW1 HR1 hz1 hlT1
  obtain ⟨T2, hT2⟩ : ∃ T, w3.heap.size = T := ⟨_, rfl⟩
  have HA2 : Hid ((w3.alloc (.cells #[.int .i64 0, .int .i64 0, .bool false, .bool false, .bool false, .bool false, .bool false, .bool false, .bool false, .bool false] 23)).heap[T2]? = some (.cells zeroS.row 23 (0, 0))) := Lib.hid (by rw [← hT2]; exact heap_alloc_last _ _)
  have HW2 : Hid (((w3.alloc (.cells #[.int .i64 0, .int .i64 0, .bool false, .bool false, .bool false, .bool false, .bool false, .bool false, .bool false, .bool false] 23)).setRow T2 s2.row).heap[T2]? = some (.cells s2.row 23 (0, 0))) := Lib.hid (setRow_heap _ _ _ _ _ _ HA2.out)
  have HW2b : Hid (((w3.alloc (.cells #[.int .i64 0, .int .i64 0, .bool false, .bool false, .bool false, .bool false, .bool false, .bool false, .bool false, .bool false] 23)).setRow T2 s2.row).heap[T1]? = some (.cells s1.row 23 (0, 0))) := Lib.hid (by rw [heap_setRow_if, if_neg (by omega), heap_alloc_if, if_neg (by omega)]; exact HT1.out)
  have HLW2 : Hid (Below B w ((w3.alloc (.cells #[.int .i64 0, .int .i64 0, .bool false, .bool false, .bool false, .bool false, .bool false, .bool false, .bool false, .bool false] 23)).setRow T2 s2.row)) := Lib.hid (below_setRow (HL3.out.alloc (by omega) _) (by omega) _)
  go_wp2_with (with_reducible refine wpList_stS rfl (.tmp 2) (.tmp 9) rfl rfl rfl HA2.out ?_)
  generalize (w3.alloc (.cells #[.int .i64 0, .int .i64 0, .bool false, .bool false, .bool false, .bool false, .bool false, .bool false, .bool false, .bool false] 23)).setRow T2 s2.row = W2 at *
  clear HL3 HA2 HT1
  refine (plain_any _).mono ?_
  rintro e w4 ⟨rfl, hb⟩
  have HT1 := Lib.hid ((hb.block T1 (lt_of_heap HW2b.out)).trans HW2b.out)
  have HT2 := Lib.hid ((hb.block T2 (lt_of_heap HW2.out)).trans HW2.out)
  have HL4 := Lib.hid (bl_then HLW2.out (by have := lt_of_heap HW2.out; omega) hb)
  clear hb HW2 HW2b HLW2
  go_wp2_with fail
  refine (put_any 20013 plainS _).mono ?_
  rintro e w5 ⟨⟨v, rfl, ho⟩, hb⟩
  rw [HK4.out] at ho
  obtain ⟨g, cp, cur, rfl, hcell⟩ : ∃ g cp cur, v = .slice (some ⟨g, 0, none⟩) 2 cp ∧ w5.heap[g]? = some (.cells cur 36 (0, 0)) ∧ cur.toList.take (2 * 15) = flatX [⟨20013, 0, 0, 0, 2, plainS⟩, ⟨0, 0, 0, 0, 0, plainS⟩] := by
    obtain ⟨_, ⟨_, h⟩ | ⟨g, cp, cur, h1, h2, h3, h4, h5, h6, h7⟩⟩ := ho
    · cases h
    · exact ⟨g, cp, cur, h1, h3, h7⟩
  have c19 : w5.cell? ⟨g, 19, none⟩ = some (.int .u8 0) := by
    have := news_take hcell.1 hcell.2 19 (.int .u8 0) rfl
    simpa [Addr.add] using this
  have HT1' := Lib.hid ((hb.block T1 (lt_of_heap HT1.out)).trans HT1.out)
  have HT2' := Lib.hid ((hb.block T2 (lt_of_heap HT2.out)).trans HT2.out)
  have HL5 := Lib.hid (bl_then HL4.out (by have := lt_of_heap HT2.out; omega) hb)
  clear hb hcell ho HT1 HT2 HL4
  go_wp2_with (first | (with_reducible refine wpList_ldS rfl (.tmp 1) rfl rfl HT1'.out ?_) | (with_reducible refine wpList_ldSg (by first | rfl | (simp [Region.wanted, yielded]; done)) (.tmp 1) rfl rfl HT1'.out ?_))
  refine (apply_any s1 none 0 0 [] _ hb1 (by decide) RdI.nil (by omega)).mono ?_
  rintro e w6 ⟨rfl, hb⟩
  rw [HK3.out]
  have HT2 := Lib.hid ((hb.block T2 (lt_of_heap HT2'.out)).trans HT2'.out)
  have c19b : w6.cell? ⟨g, 19, none⟩ = some (.int .u8 0) := (hb.cell (block_lt_of_cell c19)).trans c19
  have HL6 := Lib.hid (bl_then HL5.out (by have := lt_of_heap HT2'.out; omega) hb)
  clear hb HT1' HT2' HL5 c19
  go_wp2_with fail
  refine (rplain_any _).mono ?_
  rintro e w7 ⟨rfl, hb⟩
  have HT3 := Lib.hid ((hb.block T2 (lt_of_heap HT2.out)).trans HT2.out)
  have c19 : w7.cell? ⟨g, 19, none⟩ = some (.int .u8 0) := (hb.cell (block_lt_of_cell c19b)).trans c19b
  have HL7 := Lib.hid (bl_then HL6.out (by have := lt_of_heap HT2.out; omega) hb)
  clear hb HT2 HL6 c19b
  go_wp2_with (first | (with_reducible refine wpList_ldSg (by first | rfl | (simp [Region.wanted, yielded]; done)) (.tmp 2) rfl rfl HT3.out ?_))
  go_ret
  exact ⟨rfl, by rw [hB]; exact HL7.out⟩
end Go.Proofs.Ytlejmllacikmeaa
