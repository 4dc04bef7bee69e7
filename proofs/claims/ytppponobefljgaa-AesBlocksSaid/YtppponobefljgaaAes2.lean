/- What is proved: rows of bytes told by a function, whole arrays by value, and what against of package aes answers; conditions: the arguments are rows of bytes. -/
import Derived.Test.YtppponobefljgaaAes1
import Derived.Test.YtppponobefljgaaOrderTrail
import Derived.Test.YtppponobefljgaaEff
import Derived.Deep.MidRow
set_option linter.unusedSimpArgs false
set_option linter.unusedVariables false
namespace Go.Proofs.Ytppponobefljgaa
open Go.RowKit
set_option maxRecDepth 100000
set_option maxHeartbeats 4000000
/-- A row of bytes. -/
def rwb (n : Nat) (f : Nat → Int) : Array Value := ((List.range n).map fun j => Value.int .u8 (f j)).toArray
theorem rwb_size (n : Nat) (f : Nat → Int) : (rwb n f).size = n := by simp [rwb]
theorem rwb_get {n i : Nat} (f : Nat → Int) (h : i < n) : (rwb n f)[i]? = some (.int .u8 (f i)) := by
  simp [rwb, h]
theorem rwb_congr {n : Nat} {f g : Nat → Int} (h : ∀ j, j < n → f j = g j) : rwb n f = rwb n g := by
  unfold rwb
  congr 1
  refine List.map_congr_left fun j hj => ?_
  rw [h j (List.mem_range.1 hj)]
def upd (f : Nat → Int) (i : Nat) (v : Int) : Nat → Int := fun j => if j = i then v else f j
theorem rwb_set {n i : Nat} (f : Nat → Int) (v : Int) (h : i < n) : (rwb n f).setIfInBounds i (.int .u8 v) = rwb n (upd f i v) := by
  apply Array.ext_getElem?
  intro j
  rw [Array.getElem?_setIfInBounds]
  by_cases hj : j < n
  · rw [rwb_get (upd f i v) hj]
    by_cases e : i = j
    · subst e
      rw [if_pos rfl, if_pos (by rw [rwb_size]; exact h)]
      unfold upd
      rw [if_pos rfl]
    · rw [if_neg e, rwb_get _ hj]
      unfold upd
      rw [if_neg (fun h => e h.symm)]
  · have h1 : (rwb n f)[j]? = none := Array.getElem?_eq_none (by rw [rwb_size]; omega)
    have h2 : (rwb n (upd f i v))[j]? = none := Array.getElem?_eq_none (by rw [rwb_size]; omega)
    rw [h1, h2, if_neg (by omega)]
theorem rwb_one (n : Nat) (f : Nat → Int) : (rwb n f).all (·.oneCell') = true := by
  rw [Array.all_eq_true]
  intro i hi
  rw [rwb_size] at hi
  have := rwb_get f hi
  rw [Array.getElem?_eq_getElem (by rw [rwb_size]; exact hi)] at this
  rw [Option.some.inj this]
  rfl
theorem cell_rwb {w : World} {g n i : Nat} {t : TypeId} {f : Nat → Int} (h : w.heap[g]? = some (.cells (rwb n f) t (0, 0))) (hi : i < n) : w.cell? ⟨g, i, none⟩ = some (.int .u8 (f i)) :=
  (cell_of_row w g i _ _ (0, 0) h).trans (rwb_get f hi)
/-- A type of so many bytes in a row. -/
structure RowT (ty : TypeId) (m : Nat) : Prop where
  und : ∃ d, Try.prog.underlying ty = some d ∧ d.isRow = true
  size : (Try.prog.info? ty).map (·.size) = some m
theorem rowBlock : RowT 28 16 := ⟨⟨_, Try.underlying28, rfl⟩, by kernel_rfl⟩
theorem rowBox : RowT 35 256 := ⟨⟨_, Try.underlying35, rfl⟩, by kernel_rfl⟩
theorem rowKeys : RowT 31 176 := ⟨⟨_, Try.underlying31, rfl⟩, by kernel_rfl⟩
theorem rowWord : RowT 50 4 := ⟨⟨_, Try.underlying50, rfl⟩, by kernel_rfl⟩
theorem run_loadVar_rwb {w : World} {g o n m : Nat} {F G : Nat → Int} {t ty : TypeId} (hT : RowT ty m) (hg : w.heap[g]? = some (.cells (rwb n F) t (0, 0))) (hm : o + m ≤ n) (hG : ∀ j, j < m → F (o + j) = G j) :
    (loadVar ty ⟨g, o, none⟩).run Try.prog w = .ok (.agg (rwb m G)) w := by
  obtain ⟨d, hu, hd⟩ := hT.und
  have h := run_loadVar_mid (P := Try.prog) w g o ty (rwb m G).toList d (fun j v hv => by
    have hj : j < m := by
      have := (List.getElem?_eq_some_iff.1 hv).1
      rwa [Array.length_toList, rwb_size] at this
    rw [Array.getElem?_toList, rwb_get _ hj] at hv
    rw [cell_rwb hg (by omega), hG j hj]
    exact hv) hu hd (by rw [hT.size, Array.length_toList, rwb_size])
  rw [Array.toArray_toList] at h
  exact h
theorem run_load_rwb {w : World} {g o n m : Nat} {F G : Nat → Int} {t ty : TypeId} (hT : RowT ty m) (hg : w.heap[g]? = some (.cells (rwb n F) t (0, 0))) (hm : o + m ≤ n) (hG : ∀ j, j < m → F (o + j) = G j) :
    (Instr.loadAt ty (.pointer (some ⟨g, o, none⟩))).run Try.prog w = .ok (.agg (rwb m G)) w := by
  simp only [Instr.loadAt, Instr.sureAddr, Sem.run_bind, Sem.run_pure, Result.andThen]
  exact run_loadVar_rwb hT hg hm hG
theorem results_cell {fn : Func} {p : Tmp} {ty : TypeId} (h : fn.results = #[.cell p ty]) {tmps : Array Value} {w : World} {g : Nat} {v : Value} (hp : tmps.getD p undef = .pointer (some ⟨g, 0, none⟩)) (hl : (loadVar ty ⟨g, 0, none⟩).run Try.prog w = .ok v w) :
    (results fn tmps).run Try.prog w = .ok v w := by
  have hp' : tmps[p]?.getD undef = .pointer (some ⟨g, 0, none⟩) := by rw [← hp]; simp
  simp only [results, h]
  simp [Sem.run_bind, Result.andThen, hp', asAddr, hl]
theorem results_cell2 {fn : Func} {p q : Tmp} {ty : TypeId} (h : fn.results = #[.cell p ty, .cell q ty]) {tmps : Array Value} {w : World} {g g' : Nat} {v v' : Value} (hp : tmps.getD p undef = .pointer (some ⟨g, 0, none⟩)) (hq : tmps.getD q undef = .pointer (some ⟨g', 0, none⟩))
    (hl : (loadVar ty ⟨g, 0, none⟩).run Try.prog w = .ok v w) (hl' : (loadVar ty ⟨g', 0, none⟩).run Try.prog w = .ok v' w) : (results fn tmps).run Try.prog w = .ok (.tuple #[v, v']) w := by
  have hp' : tmps[p]?.getD undef = .pointer (some ⟨g, 0, none⟩) := by rw [← hp]; simp
  have hq' : tmps[q]?.getD undef = .pointer (some ⟨g', 0, none⟩) := by rw [← hq]; simp
  simp only [results, h]
  simp [Sem.run_bind, Result.andThen, hp', hq', asAddr, hl, hl']
theorem exec_load {P : Program} {o : Oper} {a : Act} {ty : TypeId} {x : Operand} {p v : Value} {w : World} (ho : o.op = .load ty x) (hx : a.eval x = p) (h : (Instr.loadAt ty p).run P w = .ok v w) : (execOp a.eval o).run P w = .ok (.value v) w := by
  unfold execOp
  simp only [ho, hx, Sem.run_bind, h, Result.andThen_ok]
  rfl
theorem wpList_ld {ops : Array Oper} {rest : List Oper} {o : Oper} {a : Act} {Q : Exit → Act → World → Prop} {w : World} {g off n m : Nat} {F G : Nat → Int} {t ty : TypeId} (hT : RowT ty m) (hgd : o.guard = none) (x : Operand) (ho : o.op = .load ty x)
    (hx : a.eval x = .pointer (some ⟨g, off, none⟩)) (hg : w.heap[g]? = some (.cells (rwb n F) t (0, 0))) (hm : off + m ≤ n) (hG : ∀ j, j < m → F (off + j) = G j) (h : wpList Try.prog ops Q rest (a.put o.dst (.agg (rwb m G))) w) : wpList Try.prog ops Q (o :: rest) a w := by
  refine wpList_plain hgd fun K hK => ?_
  have hr := exec_load (P := Try.prog) (o := o) (a := a) ho hx (run_load_rwb hT hg hm hG)
  unfold Oper.wp
  rw [hr]
  exact hK _ _ h
theorem run_store_rwb {w : World} {g m : Nat} {F G : Nat → Int} {t ty : TypeId} (hT : RowT ty m) (hg : w.heap[g]? = some (.cells (rwb m F) t (0, 0))) :
    (Instr.storeAt ty (.pointer (some ⟨g, 0, none⟩)) (.agg (rwb m G))).run Try.prog w = .ok () (w.setRow g (rwb m G)) :=
  run_store_whole Try.prog ty t _ (by rw [hT.size, rwb_size]) (rwb_one _ _) w g _ hg (by rw [rwb_size, rwb_size])
theorem wpList_st {ops : Array Oper} {rest : List Oper} {o : Oper} {a : Act} {Q : Exit → Act → World → Prop} {w : World} {g m : Nat} {F G : Nat → Int} {t ty : TypeId} (hT : RowT ty m) (hgd : o.guard = none) (x y : Operand) (ho : o.op = .store ty x y)
    (hx : a.eval x = .pointer (some ⟨g, 0, none⟩)) (hy : a.eval y = .agg (rwb m G)) (hg : w.heap[g]? = some (.cells (rwb m F) t (0, 0))) (h : ∀ w', w' = w.setRow g (rwb m G) → wpList Try.prog ops Q rest (a.put o.dst undef) w') : wpList Try.prog ops Q (o :: rest) a w := by
  refine wpList_plain hgd fun K hK => ?_
  have hr := exec_store (P := Try.prog) (o := o) (a := a) ho hx hy (run_store_rwb hT hg)
  unfold Oper.wp
  rw [hr]
  exact hK _ _ (h _ rfl)
theorem zeros16 : (#[.int .u8 0, .int .u8 0, .int .u8 0, .int .u8 0, .int .u8 0, .int .u8 0, .int .u8 0, .int .u8 0, .int .u8 0, .int .u8 0, .int .u8 0, .int .u8 0, .int .u8 0, .int .u8 0, .int .u8 0, .int .u8 0] : Array Value) = rwb 16 (fun _ => 0) := rfl
theorem against_any (a b : Nat → Int) (w : World) : Calls Try.prog 31 #[.agg (rwb 16 a), .agg (rwb 16 b)] w fun e w' => e = .returned (.agg (rwb 16 fun j => bits .xor .u8 (a j) (b j))) ∧ Below w.heap.size w w' := by
  go_enter Try.func31, Try.ntmps31
  go_wp2_with fail
  rw [zeros16]
  go_loopw [6] (fun i wr => ∃ k : Nat, k ≤ 16 ∧ i = .int .i64 k ∧ Hid (wr.heap[w.heap.size]? = some (.cells (rwb 16 (fun j => if j < k then bits .xor .u8 (a j) (b j) else a j)) 28 (0, 0))) ∧ Hid (wr.heap[w.heap.size + 1]? = some (.cells (rwb 16 b) 28 (0, 0))) ∧ Hid (wr.heap[w.heap.size + 1 + 1]? = some (.cells (rwb 16 (fun _ => 0)) 28 (0, 0))) ∧ Hid (Below w.heap.size w wr)) (fun i _ => 16 - (intOf i).toNat)
  case atStart =>
    refine ⟨0, by omega, rfl, Lib.hid ?_, Lib.hid ?_, Lib.hid ?_, Lib.hid (by (repeat' (first | (with_reducible exact Below.refl _ _) | (with_reducible assumption) | (with_reducible refine Below.alloc ?_ ?_ _) | (with_reducible refine below_setRow ?_ ?_ _) | (with_reducible refine bl_drew ?_) | (with_reducible refine bl_drewN ?_ _) | (with_reducible refine Below.setCell ?_ ?_ _) | (with_reducible refine bl_then ?_ ?_ hb) | (with_reducible refine bl_then ?_ ?_ hb1) | (with_reducible refine bl_then ?_ ?_ hb2) | (with_reducible refine bl_then ?_ ?_ hb3) | (with_reducible refine bl_then ?_ ?_ hb4) | (with_reducible refine bl_then ?_ ?_ hb5) | (with_reducible refine bl_then ?_ ?_ hb6) | (with_reducible refine bl_then ?_ ?_ hb7) | (with_reducible refine bl_then ?_ ?_ hb8) | (with_reducible exact Nat.le_refl _) | omega | (simp only [World.size_alloc, World.size_setCell, World.size_drew, size_setRow]; omega) | (simp; omega) | (simp; done))))⟩
    · rw [rwb_congr (g := a) (fun j _ => if_neg (by omega))]
      (simp only [heap_setRow_if, heap_alloc_if, heap_setCell_if, World.size_alloc, size_setRow, World.size_setCell]; simp) <;> (intros; omega)
    · (simp only [heap_setRow_if, heap_alloc_if, heap_setCell_if, World.size_alloc, size_setRow, World.size_setCell]; simp) <;> (intros; omega)
    · (simp only [heap_setRow_if, heap_alloc_if, heap_setCell_if, World.size_alloc, size_setRow, World.size_setCell]; simp) <;> (intros; omega)
  case round =>
    obtain ⟨k, hk, rfl, HA, HB, HC, HL⟩ := hrel
    by_cases hlt : k < 16
    · have cx := cell_rwb HA.out hlt
      have cy := cell_rwb HB.out hlt
      rw [if_neg (by omega)] at cx
      have fx := frozen_of_row wr w.heap.size k _ _ HA.out
      have hki : (k : Int) < 16 := by omega
      have hk0 : (0 : Int) ≤ (k : Int) := by omega
      go_wp2_with fail
      go_region
      go_wp2_with fail
      go_roundw
      case rel =>
        refine ⟨k + 1, by omega, by go_num, Lib.hid ?_, Lib.hid ?_, Lib.hid ?_, Lib.hid (bl_drew (HL.out.setCell (by simp) _))⟩
        · refine (heap_setCell_same _ _ k _ _ _ HA.out).trans ?_
          rw [rwb_set _ _ hlt]
          congr 2
          refine rwb_congr fun j hj => ?_
          unfold upd
          by_cases e : j = k
          · rw [if_pos e, if_pos (by omega), e]
          · rw [if_neg e]
            show (if j < k then _ else _) = _
            by_cases e2 : j < k
            · rw [if_pos e2, if_pos (by omega)]
            · rw [if_neg e2, if_neg (by omega)]
        · exact (heap_setCell_other _ ⟨_, _, _⟩ _ _ (by simp)).trans HB.out
        · exact (heap_setCell_other _ ⟨_, _, _⟩ _ _ (by simp; omega)).trans HC.out
      case measure =>
        simp [intOf] <;> omega
    · obtain rfl : k = 16 := by omega
      have HA2 : Hid (wr.heap[w.heap.size]? = some (.cells (rwb 16 fun j => bits .xor .u8 (a j) (b j)) 28 (0, 0))) := Lib.hid (by
        rw [HA.out, rwb_congr (g := fun j => bits .xor .u8 (a j) (b j)) (fun j hj => if_pos hj)])
      clear HA
      go_wp2_with (first | (with_reducible refine wpList_ld rowBlock rfl (.tmp 2) rfl rfl HA2.out (by omega) (G := fun j => bits .xor .u8 (a j) (b j)) (fun j _ => by rw [Nat.zero_add]) ?_) | (with_reducible refine wpList_st rowBlock rfl (.tmp 4) (.tmp 18) rfl rfl rfl HC.out ?_))
      refine bodyPost_ret (v := .agg (rwb 16 fun j => bits .xor .u8 (a j) (b j))) ?_ rfl ?_
      · exact results_cell (fn := Try.f31) Try.results31 rfl (run_loadVar_rwb rowBlock (setRow_heap _ _ _ _ _ _ HC.out) (by omega) (fun j _ => by rw [Nat.zero_add]))
      · exact ⟨rfl, below_setRow HL.out (by omega) _⟩
end Go.Proofs.Ytppponobefljgaa
