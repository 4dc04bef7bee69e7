/- What is proved: what Blank of package cell answers when it is called; no condition. -/
import Derived.Test.YtlejmllacikmeaaCell9
set_option linter.unusedSimpArgs false
set_option linter.unusedVariables false
namespace Go.Proofs.Ytlejmllacikmeaa
open Go.RowKit
set_option maxRecDepth 100000
set_option maxHeartbeats 4000000
theorem run_loadVar_blk {w : World} {g : Nat} {row : Array Value} {ty t : TypeId} (hi : (Try.prog.info? ty).map (·.size) = some row.size) (hu : ∃ d, Try.prog.underlying ty = some d ∧ d.isRow = true) (hg : w.heap[g]? = some (.cells row t (0, 0))) : (loadVar ty ⟨g, 0, none⟩).run Try.prog w = .ok (.agg row) w := by
  obtain ⟨d, hu, hd⟩ := hu
  have h := run_loadVar_mid (P := Try.prog) w g 0 ty row.toList d (fun j v hv => by
    rw [Array.getElem?_toList] at hv
    rw [Nat.zero_add, cell_of_row w g j _ _ (0, 0) hg]
    exact hv) hu hd (by rw [hi, Array.length_toList])
  rw [Array.toArray_toList] at h
  exact h
theorem wpList_ldB {ops : Array Oper} {rest : List Oper} {o : Oper} {a : Act} {Q : Exit → Act → World → Prop} {w : World} {g : Nat} {row : Array Value} {ty t : TypeId} (hi : (Try.prog.info? ty).map (·.size) = some row.size) (hu : ∃ d, Try.prog.underlying ty = some d ∧ d.isRow = true) (hgd : o.guard = none) (x : Operand) (ho : o.op = .load ty x)
    (hx : a.eval x = .pointer (some ⟨g, 0, none⟩)) (hg : w.heap[g]? = some (.cells row t (0, 0))) (h : wpList Try.prog ops Q rest (a.put o.dst (.agg row)) w) : wpList Try.prog ops Q (o :: rest) a w := by
  refine wpList_plain hgd fun K hK => ?_
  have hr := exec_load (P := Try.prog) (o := o) (a := a) ho hx (run_load_blk hi hu hg)
  unfold Oper.wp
  rw [hr]
  exact hK _ _ h
theorem wpList_stB {ops : Array Oper} {rest : List Oper} {o : Oper} {a : Act} {Q : Exit → Act → World → Prop} {w : World} {g : Nat} {row old : Array Value} {ty t : TypeId} (hi : (Try.prog.info? ty).map (·.size) = some row.size) (h1 : row.all (·.oneCell') = true) (hgd : o.guard = none) (x y : Operand) (ho : o.op = .store ty x y)
    (hx : a.eval x = .pointer (some ⟨g, 0, none⟩)) (hy : a.eval y = .agg row) (hg : w.heap[g]? = some (.cells old t (0, 0))) (hol : old.size = row.size) (h : ∀ w', w' = w.setRow g row → wpList Try.prog ops Q rest (a.put o.dst undef) w') : wpList Try.prog ops Q (o :: rest) a w := by
  refine wpList_plain hgd fun K hK => ?_
  have hr := exec_store (P := Try.prog) (o := o) (a := a) ho hx hy (run_store_whole Try.prog ty t _ hi h1 w g _ hg hol)
  unfold Oper.wp
  rw [hr]
  exact hK _ _ (h _ rfl)
theorem results_blk {fn : Func} {p : Tmp} {ty : TypeId} (h : fn.results = #[.cell p ty]) {tmps : Array Value} {w : World} {g : Nat} {v : Value} (hp : tmps.getD p undef = .pointer (some ⟨g, 0, none⟩)) (hl : (loadVar ty ⟨g, 0, none⟩).run Try.prog w = .ok v w) :
    (results fn tmps).run Try.prog w = .ok v w := by
  have hp' : tmps[p]?.getD undef = .pointer (some ⟨g, 0, none⟩) := by rw [← hp]; simp
  simp only [results, h]
  simp [Sem.run_bind, Result.andThen, hp', asAddr, hl]
def blankS (s : Sty) : Cel := ⟨32, 0, 0, 0, 1, ⟨-1, s.bg, 0⟩⟩
theorem Cel.one (x : Cel) : x.row.all (·.oneCell') = true := by
  obtain ⟨c, m0, m1, m2, wd, ⟨fg, bg, b⟩⟩ := x
  simp [Cel.row, Value.oneCell']
theorem blank_any (s : Sty) (w : World) : Calls Try.prog 12 #[s.val] w fun e w' => e = .returned (blankS s).val ∧ Below w.heap.size w w' := by
  obtain ⟨fg, bg, b⟩ := s
  unfold Sty.val Sty.row
  dsimp only
  generalize tb b 0 = b0
  generalize tb b 1 = b1
  generalize tb b 2 = b2
  generalize tb b 3 = b3
  generalize tb b 4 = b4
  generalize tb b 5 = b5
  generalize tb b 6 = b6
  generalize tb b 7 = b7
  obtain ⟨B, hB⟩ : ∃ B, w.heap.size = B := ⟨_, rfl⟩
  go_enter Try.func12, Try.ntmps12
  go_wp2_with fail
  refine (plain_any _).mono ?_
  rintro e w1 ⟨rfl, hb⟩
  rw [show plainS.val = .agg #[.int .i64 (-1), .int .i64 (-1), .bool false, .bool false, .bool false, .bool false, .bool false, .bool false, .bool false, .bool false] from rfl]
  have hsz := hb.size
  simp only [World.size_alloc, hB] at hsz
  have HA : Hid (w1.heap[B]? = some (.cells #[.int .i64 fg, .int .i64 bg, .bool b0, .bool b1, .bool b2, .bool b3, .bool b4, .bool b5, .bool b6, .bool b7] 23 (0, 0))) := Lib.hid ((hb.block B (by simp [hB]; omega)).trans (by rw [← hB]; (simp only [heap_setRow_if, heap_alloc_if, heap_setCell_if, World.size_alloc, size_setRow, World.size_setCell]; simp) <;> (intros; omega)))
  have HR : Hid (w1.heap[B + 1]? = some (.cells #[.int .i32 0, .int .i32 0, .int .i32 0, .int .i32 0, .int .u8 0, .int .i64 0, .int .i64 0, .bool false, .bool false, .bool false, .bool false, .bool false, .bool false, .bool false, .bool false] 36 (0, 0))) := Lib.hid ((hb.block (B + 1) (by simp [hB])).trans (by rw [← hB]; (simp only [heap_setRow_if, heap_alloc_if, heap_setCell_if, World.size_alloc, size_setRow, World.size_setCell]; simp) <;> (intros; omega)))
  have HL1 : Hid (Below B w w1) := Lib.hid (by rw [← hB]; exact bl_then (by (repeat' (first | (with_reducible exact Below.refl _ _) | (with_reducible assumption) | (with_reducible refine Below.alloc ?_ ?_ _) | (with_reducible refine below_setRow ?_ ?_ _) | (with_reducible refine bl_drew ?_) | (with_reducible refine bl_drewN ?_ _) | (with_reducible refine Below.setCell ?_ ?_ _) | (with_reducible refine bl_then ?_ ?_ hb) | (with_reducible refine bl_then ?_ ?_ hb1) | (with_reducible refine bl_then ?_ ?_ hb2) | (with_reducible refine bl_then ?_ ?_ hb3) | (with_reducible refine bl_then ?_ ?_ hb4) | (with_reducible refine bl_then ?_ ?_ hb5) | (with_reducible refine bl_then ?_ ?_ hb6) | (with_reducible refine bl_then ?_ ?_ hb7) | (with_reducible refine bl_then ?_ ?_ hb8) | (with_reducible exact Nat.le_refl _) | omega | (simp only [World.size_alloc, World.size_setCell, World.size_drew, size_setRow]; omega) | (simp; omega) | (simp; done)))) (by simp; omega) hb)
  clear hb
  have c1 : w1.cell? ⟨B, 1, none⟩ = some (.int .i64 bg) := (cell_of_row w1 B 1 _ _ (0, 0) HA.out).trans rfl
  have hlB : B < w1.heap.size := by omega
  try rw [hB]
  have HW : Hid (∀ W, W = w1.alloc (.cells #[.int .i64 (-1), .int .i64 bg, .bool false, .bool false, .bool false, .bool false, .bool false, .bool false, .bool false, .bool false] 23) → W.heap[B + 1]? = some (.cells #[.int .i32 0, .int .i32 0, .int .i32 0, .int .i32 0, .int .u8 0, .int .i64 0, .int .i64 0, .bool false, .bool false, .bool false, .bool false, .bool false, .bool false, .bool false, .bool false] 36 (0, 0))) := Lib.hid (by
    rintro W rfl
    rw [heap_alloc_if, if_neg (by omega)]
    exact HR.out)
  have HI : Hid ((Try.prog.info? 36).map (·.size) = some (#[.int .i32 32, .int .i32 0, .int .i32 0, .int .i32 0, .int .u8 1, .int .i64 (-1), .int .i64 bg, .bool false, .bool false, .bool false, .bool false, .bool false, .bool false, .bool false, .bool false] : Array Value).size) := Lib.hid celInfo
  have H1 : Hid ((#[.int .i32 32, .int .i32 0, .int .i32 0, .int .i32 0, .int .u8 1, .int .i64 (-1), .int .i64 bg, .bool false, .bool false, .bool false, .bool false, .bool false, .bool false, .bool false, .bool false] : Array Value).all (·.oneCell') = true) := Lib.hid (by simp [Value.oneCell'])
  have HZ : Hid ((#[.int .i32 0, .int .i32 0, .int .i32 0, .int .i32 0, .int .u8 0, .int .i64 0, .int .i64 0, .bool false, .bool false, .bool false, .bool false, .bool false, .bool false, .bool false, .bool false] : Array Value).size = (#[.int .i32 32, .int .i32 0, .int .i32 0, .int .i32 0, .int .u8 1, .int .i64 (-1), .int .i64 bg, .bool false, .bool false, .bool false, .bool false, .bool false, .bool false, .bool false, .bool false] : Array Value).size) := Lib.hid rfl
  go_wp2_with (with_reducible refine wpList_stB (row := #[.int .i32 32, .int .i32 0, .int .i32 0, .int .i32 0, .int .u8 1, .int .i64 (-1), .int .i64 bg, .bool false, .bool false, .bool false, .bool false, .bool false, .bool false, .bool false, .bool false]) HI.out H1.out rfl (.tmp 2) (.tmp 9) rfl rfl rfl (HW.out _ rfl) HZ.out ?_)
  refine bodyPost_ret (v := .agg #[.int .i32 32, .int .i32 0, .int .i32 0, .int .i32 0, .int .u8 1, .int .i64 (-1), .int .i64 bg, .bool false, .bool false, .bool false, .bool false, .bool false, .bool false, .bool false, .bool false]) ?_ rfl ⟨by simp [blankS, Cel.val, Cel.row, tb], ?_⟩
  · exact results_blk (fn := Try.f12) Try.results12 rfl (run_loadVar_blk HI.out celRow (setRow_heap _ _ _ _ _ _ (HW.out _ rfl)))
  · (try rw [hB])
    exact below_setRow (HL1.out.alloc (by omega) _) (by omega) _
end Go.Proofs.Ytlejmllacikmeaa
