/- What is proved: what New and Expand of the reference answer when they are called; conditions: the key is sixteen bytes. -/
import Derived.Test.YtppponobefljgaaAesR4
set_option linter.unusedSimpArgs false
set_option linter.unusedVariables false
namespace Go.Proofs.Ytppponobefljgaa
open Go.RowKit
set_option maxRecDepth 100000
set_option maxHeartbeats 8000000
/-- A cipher of the reference: where its table lies, and the round keys. -/
def crow (T : Nat) (K : Nat → Int) : Array Value := #[.pointer (some ⟨T, 0, none⟩)] ++ rwb 176 K
def crow0 : Array Value := #[.pointer none] ++ rwb 176 fun _ => 0
theorem crow_size (T : Nat) (K : Nat → Int) : (crow T K).size = 177 := by simp [crow, rwb_size]
theorem crow0_size : crow0.size = 177 := by simp [crow0, rwb_size]
theorem crow_get0 (T : Nat) (K : Nat → Int) : (crow T K)[0]? = some (.pointer (some ⟨T, 0, none⟩)) := by
  unfold crow
  rw [Array.getElem?_append_left (by simp)]
  rfl
theorem crow_get (T : Nat) (K : Nat → Int) {j : Nat} (h : j < 176) : (crow T K)[1 + j]? = some (.int .u8 (K j)) := by
  unfold crow
  rw [Array.getElem?_append_right (by simp)]
  rw [show 1 + j - (#[Value.pointer (some ⟨T, 0, none⟩)] : Array Value).size = j by simp]
  exact rwb_get K h
theorem crow_one (T : Nat) (K : Nat → Int) : (crow T K).all (·.oneCell') = true := by
  unfold crow
  rw [Array.all_append, rwb_one, Bool.and_true]
  simp [Value.oneCell']
theorem run_loadVar_blk {w : World} {g : Nat} {row : Array Value} {ty t : TypeId} (hi : (Try.prog.info? ty).map (·.size) = some row.size) (hu : ∃ d, Try.prog.underlying ty = some d ∧ d.isRow = true) (hg : w.heap[g]? = some (.cells row t (0, 0))) : (loadVar ty ⟨g, 0, none⟩).run Try.prog w = .ok (.agg row) w := by
  obtain ⟨d, hu, hd⟩ := hu
  have h := run_loadVar_mid (P := Try.prog) w g 0 ty row.toList d (fun j v hv => by
    rw [Array.getElem?_toList] at hv
    rw [Nat.zero_add, cell_of_row w g j _ _ (0, 0) hg]
    exact hv) hu hd (by rw [hi, Array.length_toList])
  rw [Array.toArray_toList] at h
  exact h
theorem cInfo : (Try.prog.info? 47).map (·.size) = some 177 := by kernel_rfl
theorem cRow : ∃ d, Try.prog.underlying 47 = some d ∧ d.isRow = true := ⟨_, Try.underlying47, rfl⟩
theorem zero47 : ∀ w, (zeroValue 47).run Try.prog w = .ok (.agg crow0) w := fun w => by kernel_rfl
theorem build47 (T : Nat) (K : Nat → Int) (w : World) : (Instr.build 47 #[(0, .pointer (some ⟨T, 0, none⟩)), (1, .agg (rwb 176 K))]).run Try.prog w = .ok (.agg (crow T K)) w := by kernel_rfl
theorem wpList_stC {ops : Array Oper} {rest : List Oper} {o : Oper} {a : Act} {Q : Exit → Act → World → Prop} {w : World} {g T : Nat} {K : Nat → Int} {old : Array Value} {t : TypeId} (hgd : o.guard = none) (x y : Operand) (ho : o.op = .store 47 x y)
    (hx : a.eval x = .pointer (some ⟨g, 0, none⟩)) (hy : a.eval y = .agg (crow T K)) (hg : w.heap[g]? = some (.cells old t (0, 0))) (hol : old.size = 177) (h : ∀ w', w' = w.setRow g (crow T K) → wpList Try.prog ops Q rest (a.put o.dst undef) w') : wpList Try.prog ops Q (o :: rest) a w := by
  refine wpList_plain hgd fun K' hK => ?_
  have hr := exec_store (P := Try.prog) (o := o) (a := a) ho hx hy (run_store_whole Try.prog 47 t _ (by rw [cInfo, crow_size]) (crow_one _ _) w g _ hg (by rw [hol, crow_size]))
  unfold Oper.wp
  rw [hr]
  exact hK _ _ (h _ rfl)
theorem exec_bdC {o : Oper} {a : Act} {x y : Operand} {w : World} {T : Nat} {K : Nat → Int} (ho : o.op = .build 47 #[(0, x), (1, y)]) (hx : a.eval x = .pointer (some ⟨T, 0, none⟩)) (hy : a.eval y = .agg (rwb 176 K)) : (execOp a.eval o).run Try.prog w = .ok (.value (.agg (crow T K))) w := by
  unfold execOp
  simp only [ho, List.map_toArray, List.map_cons, List.map_nil, hx, hy, Sem.run_bind, build47, Result.andThen_ok]
  rfl
theorem wpList_bdC {ops : Array Oper} {rest : List Oper} {o : Oper} {a : Act} {Q : Exit → Act → World → Prop} {w : World} {T : Nat} {K : Nat → Int} (hgd : o.guard = none) (x y : Operand) (ho : o.op = .build 47 #[(0, x), (1, y)])
    (hx : a.eval x = .pointer (some ⟨T, 0, none⟩)) (hy : a.eval y = .agg (rwb 176 K)) (h : wpList Try.prog ops Q rest (a.put o.dst (.agg (crow T K))) w) : wpList Try.prog ops Q (o :: rest) a w := by
  refine wpList_plain hgd fun K' hK => ?_
  have hr := exec_bdC (o := o) (a := a) (w := w) ho hx hy
  unfold Oper.wp
  rw [hr]
  exact hK _ _ h
theorem rnew_any (key : Nat → Int) (hk : By key) (w : World) : Calls Try.prog 27 #[.agg (rwb 16 key)] w fun e w' => (∃ T, e = .returned (.agg (crow T (kw key))) ∧ w.heap.size ≤ T ∧ w'.heap[T]? = some (.cells (rwb 256 subI) 35 (0, 0))) ∧ Below w.heap.size w w' := by
  have hz1 := zero47
  have hz2 := zeros256
  go_enter Try.func27, Try.ntmps27
  go_wp2_with fail
  refine (table_any _).mono ?_
  rintro e w1 ⟨rfl, hb⟩
  obtain ⟨N, hN⟩ : ∃ N, w.heap.size = N := ⟨_, rfl⟩
  have hsz := hb.size
  simp only [World.size_alloc, hN] at hsz
  have HK1 : Hid (w1.heap[N]? = some (.cells (rwb 16 key) 28 (0, 0))) := Lib.hid ((hb.block N (by simp [hN]; omega)).trans (by rw [← hN]; (simp only [heap_setRow_if, heap_alloc_if, heap_setCell_if, World.size_alloc, size_setRow, World.size_setCell]; simp)))
  have HR1 : Hid (w1.heap[N + 1]? = some (.cells crow0 47 (0, 0))) := Lib.hid ((hb.block (N + 1) (by simp [hN])).trans (by rw [← hN]; (simp only [heap_setRow_if, heap_alloc_if, heap_setCell_if, World.size_alloc, size_setRow, World.size_setCell]; simp)))
  have HL1 : Hid (Below N w w1) := Lib.hid (by rw [← hN]; exact bl_then (by (repeat' (first | (with_reducible exact Below.refl _ _) | (with_reducible assumption) | (with_reducible refine Below.alloc ?_ ?_ _) | (with_reducible refine below_setRow ?_ ?_ _) | (with_reducible refine bl_drew ?_) | (with_reducible refine bl_drewN ?_ _) | (with_reducible refine Below.setCell ?_ ?_ _) | (with_reducible refine bl_then ?_ ?_ hb) | (with_reducible refine bl_then ?_ ?_ hb1) | (with_reducible refine bl_then ?_ ?_ hb2) | (with_reducible refine bl_then ?_ ?_ hb3) | (with_reducible refine bl_then ?_ ?_ hb4) | (with_reducible refine bl_then ?_ ?_ hb5) | (with_reducible refine bl_then ?_ ?_ hb6) | (with_reducible refine bl_then ?_ ?_ hb7) | (with_reducible refine bl_then ?_ ?_ hb8) | (with_reducible exact Nat.le_refl _) | omega | (simp only [World.size_alloc, World.size_setCell, World.size_drew, size_setRow]; omega) | (simp; omega) | (simp; done)))) (by simp; omega) hb)
  clear hb hz1
  obtain ⟨T, hT⟩ : ∃ T, w1.heap.size = T := ⟨_, rfl⟩
  have HA : Hid ((w1.alloc (.cells (rwb 256 fun _ => 0) 35)).heap[T]? = some (.cells (rwb 256 fun _ => 0) 35 (0, 0))) := Lib.hid (by rw [← hT]; exact heap_alloc_last _ _)
  have HW : Hid (((w1.alloc (.cells (rwb 256 fun _ => 0) 35)).setRow T (rwb 256 subI)).heap[T]? = some (.cells (rwb 256 subI) 35 (0, 0))) := Lib.hid (setRow_heap _ _ _ _ _ _ HA.out)
  have HWK : Hid (((w1.alloc (.cells (rwb 256 fun _ => 0) 35)).setRow T (rwb 256 subI)).heap[N]? = some (.cells (rwb 16 key) 28 (0, 0))) := Lib.hid (by rw [heap_setRow_if, if_neg (by omega), heap_alloc_if, if_neg (by omega)]; exact HK1.out)
  have HWR : Hid (((w1.alloc (.cells (rwb 256 fun _ => 0) 35)).setRow T (rwb 256 subI)).heap[N + 1]? = some (.cells crow0 47 (0, 0))) := Lib.hid (by rw [heap_setRow_if, if_neg (by omega), heap_alloc_if, if_neg (by omega)]; exact HR1.out)
  have HWL : Hid (Below N w ((w1.alloc (.cells (rwb 256 fun _ => 0) 35)).setRow T (rwb 256 subI))) := Lib.hid (below_setRow (HL1.out.alloc (by omega) _) (by omega) _)
  go_wp2_with (first | (with_reducible refine wpList_st rowBox rfl (.tmp 3) (.tmp 4) rfl rfl rfl HA.out ?_) | (with_reducible refine wpList_ld rowBlock rfl (.tmp 1) rfl rfl HWK.out (by omega) (G := key) (fun j _ => by rw [Nat.zero_add]) ?_))
  clear HA HK1 HR1 HL1 hz2
  generalize (w1.alloc (.cells (rwb 256 fun _ => 0) 35)).setRow T (rwb 256 subI) = W at *
  refine (rexpand_any T key hk W HW.out).mono ?_
  rintro e w2 ⟨rfl, hb⟩
  have HT2 := Lib.hid ((hb.block T (lt_of_heap HW.out)).trans HW.out)
  have HR2 := Lib.hid ((hb.block (N + 1) (lt_of_heap HWR.out)).trans HWR.out)
  have HL2 := Lib.hid (bl_then HWL.out (by have := lt_of_heap HWR.out; omega) hb)
  clear hb HW HWK HWR HWL
  go_wp2_with (first | (with_reducible refine wpList_bdC rfl (.tmp 3) (.tmp 6) rfl rfl rfl ?_) | (with_reducible refine wpList_stC rfl (.tmp 2) (.tmp 7) rfl rfl rfl HR2.out crow0_size ?_))
  refine bodyPost_ret (v := .agg (crow T (kw key))) ?_ rfl ?_
  · exact results_cell (fn := Try.f27) Try.results27 rfl (run_loadVar_blk (by rw [cInfo, crow_size]) cRow (setRow_heap _ _ _ _ _ _ HR2.out))
  · refine ⟨⟨T, rfl, by omega, ?_⟩, ?_⟩
    · rw [heap_setRow_if, if_neg (by omega)]; exact HT2.out
    · rw [hN]; exact below_setRow HL2.out (by omega) _
theorem rexpandK_any (key : Nat → Int) (hk : By key) (w : World) : Calls Try.prog 17 #[.agg (rwb 16 key)] w fun e w' => e = .returned (.agg (rwb 176 (kw key))) ∧ Below w.heap.size w w' := by
  have hz1 := zero31
  have hz2 := zeros256
  go_enter Try.func17, Try.ntmps17
  go_wp2_with fail
  refine (table_any _).mono ?_
  rintro e w1 ⟨rfl, hb⟩
  obtain ⟨N, hN⟩ : ∃ N, w.heap.size = N := ⟨_, rfl⟩
  have hsz := hb.size
  simp only [World.size_alloc, hN] at hsz
  have HK1 : Hid (w1.heap[N]? = some (.cells (rwb 16 key) 28 (0, 0))) := Lib.hid ((hb.block N (by simp [hN]; omega)).trans (by rw [← hN]; (simp only [heap_setRow_if, heap_alloc_if, heap_setCell_if, World.size_alloc, size_setRow, World.size_setCell]; simp)))
  have HR1 : Hid (w1.heap[N + 1]? = some (.cells (rwb 176 fun _ => 0) 31 (0, 0))) := Lib.hid ((hb.block (N + 1) (by simp [hN])).trans (by rw [← hN]; (simp only [heap_setRow_if, heap_alloc_if, heap_setCell_if, World.size_alloc, size_setRow, World.size_setCell]; simp)))
  have HL1 : Hid (Below N w w1) := Lib.hid (by rw [← hN]; exact bl_then (by (repeat' (first | (with_reducible exact Below.refl _ _) | (with_reducible assumption) | (with_reducible refine Below.alloc ?_ ?_ _) | (with_reducible refine below_setRow ?_ ?_ _) | (with_reducible refine bl_drew ?_) | (with_reducible refine bl_drewN ?_ _) | (with_reducible refine Below.setCell ?_ ?_ _) | (with_reducible refine bl_then ?_ ?_ hb) | (with_reducible refine bl_then ?_ ?_ hb1) | (with_reducible refine bl_then ?_ ?_ hb2) | (with_reducible refine bl_then ?_ ?_ hb3) | (with_reducible refine bl_then ?_ ?_ hb4) | (with_reducible refine bl_then ?_ ?_ hb5) | (with_reducible refine bl_then ?_ ?_ hb6) | (with_reducible refine bl_then ?_ ?_ hb7) | (with_reducible refine bl_then ?_ ?_ hb8) | (with_reducible exact Nat.le_refl _) | omega | (simp only [World.size_alloc, World.size_setCell, World.size_drew, size_setRow]; omega) | (simp; omega) | (simp; done)))) (by simp; omega) hb)
  clear hb hz1
  obtain ⟨T, hT⟩ : ∃ T, w1.heap.size = T := ⟨_, rfl⟩
  have HA : Hid ((w1.alloc (.cells (rwb 256 fun _ => 0) 35)).heap[T]? = some (.cells (rwb 256 fun _ => 0) 35 (0, 0))) := Lib.hid (by rw [← hT]; exact heap_alloc_last _ _)
  have HW : Hid (((w1.alloc (.cells (rwb 256 fun _ => 0) 35)).setRow T (rwb 256 subI)).heap[T]? = some (.cells (rwb 256 subI) 35 (0, 0))) := Lib.hid (setRow_heap _ _ _ _ _ _ HA.out)
  have HWK : Hid (((w1.alloc (.cells (rwb 256 fun _ => 0) 35)).setRow T (rwb 256 subI)).heap[N]? = some (.cells (rwb 16 key) 28 (0, 0))) := Lib.hid (by rw [heap_setRow_if, if_neg (by omega), heap_alloc_if, if_neg (by omega)]; exact HK1.out)
  have HWR : Hid (((w1.alloc (.cells (rwb 256 fun _ => 0) 35)).setRow T (rwb 256 subI)).heap[N + 1]? = some (.cells (rwb 176 fun _ => 0) 31 (0, 0))) := Lib.hid (by rw [heap_setRow_if, if_neg (by omega), heap_alloc_if, if_neg (by omega)]; exact HR1.out)
  have HWL : Hid (Below N w ((w1.alloc (.cells (rwb 256 fun _ => 0) 35)).setRow T (rwb 256 subI))) := Lib.hid (below_setRow (HL1.out.alloc (by omega) _) (by omega) _)
  go_wp2_with (first | (with_reducible refine wpList_st rowBox rfl (.tmp 3) (.tmp 4) rfl rfl rfl HA.out ?_) | (with_reducible refine wpList_ld rowBlock rfl (.tmp 1) rfl rfl HWK.out (by omega) (G := key) (fun j _ => by rw [Nat.zero_add]) ?_))
  clear HA HK1 HR1 HL1 hz2
  generalize (w1.alloc (.cells (rwb 256 fun _ => 0) 35)).setRow T (rwb 256 subI) = W at *
  refine (rexpand_any T key hk W HW.out).mono ?_
  rintro e w2 ⟨rfl, hb⟩
  have HR2 := Lib.hid ((hb.block (N + 1) (lt_of_heap HWR.out)).trans HWR.out)
  have HL2 := Lib.hid (bl_then HWL.out (by have := lt_of_heap HWR.out; omega) hb)
  clear hb HW HWK HWR HWL
  go_wp2_with (with_reducible refine wpList_st rowKeys rfl (.tmp 2) (.tmp 6) rfl rfl rfl HR2.out ?_)
  refine bodyPost_ret (v := .agg (rwb 176 (kw key))) ?_ rfl ?_
  · exact results_cell (fn := Try.f17) Try.results17 rfl (run_loadVar_rwb rowKeys (setRow_heap _ _ _ _ _ _ HR2.out) (by omega) (fun j _ => by rw [Nat.zero_add]))
  · exact ⟨rfl, by rw [hN]; exact below_setRow HL2.out (by omega) _⟩
end Go.Proofs.Ytppponobefljgaa
