/- What is proved: laws on whole blocks (loads, stores, results) and on regions that begin with no resource; conditions: those typed. -/
import Derived.Test.YtgkiedbefogklaaOrderTrail
import Derived.Test.YtgkiedbefogklaaProg
import Derived.Test.YtgkiedbefogklaaEff
import Derived.Deep.MidRow
set_option linter.unusedSimpArgs false
set_option linter.unusedVariables false
namespace Go.Proofs.Ytgkiedbefogklaa
open Go.RowKit
set_option maxRecDepth 100000
set_option maxHeartbeats 4000000
theorem exec_load {P : Program} {o : Oper} {a : Act} {ty : TypeId} {x : Operand} {p v : Value} {w : World} (ho : o.op = .load ty x) (hx : a.eval x = p) (h : (Instr.loadAt ty p).run P w = .ok v w) : (execOp a.eval o).run P w = .ok (.value v) w := by
  unfold execOp
  simp only [ho, hx, Sem.run_bind, h, Result.andThen_ok]
  rfl
def gh0 : Gh := fun _ => none
theorem Inv.start0 (w0 : World) (S : Nat → Prop) : Inv w0 S gh0 w0.drew := Inv.start w0 S gh0 (by intro t g o h; cases h) (by intro t t' g g' o o' h; cases h)
theorem Inv.belowS {w w0 w1 : World} {S : Nat → Prop} {γ : Gh} {B : Nat} (h : Inv w0 S γ w1) (hb : Below B w w0) (hB : B ≤ w0.heap.size) (hS : ∀ g, S g → B ≤ g) : Below B w w1 :=
  ⟨h.os.trans hb.os, h.tape.trans hb.tape, h.output.trans hb.output, Nat.le_trans hb.size h.size, fun k hk => (h.far k (by omega) (fun hs => by have := hS k hs; omega)).trans (hb.block k hk)⟩
theorem Inv.belowOf {w0 w : World} {γ : Gh} (h : Inv w0 (fun _ => False) γ w) : Below w0.heap.size w0 w :=
  ⟨h.os, h.tape, h.output, h.size, fun b hb => h.far b hb (fun h => h)⟩
theorem cell_same {w w1 : World} {g o : Nat} (h : w1.heap[g]? = w.heap[g]?) : w1.cell? ⟨g, o, none⟩ = w.cell? ⟨g, o, none⟩ := by simp only [World.cell?, h]
theorem run_loadVar_at {w : World} {g q : Nat} {row cur : Array Value} {ty t : TypeId} (hi : (Try.prog.info? ty).map (·.size) = some row.size) (hu : ∃ d, Try.prog.underlying ty = some d ∧ d.isRow = true)
    (hg : w.heap[g]? = some (.cells cur t (0, 0))) (hr : ∀ j u, row.toList[j]? = some u → cur[q + j]? = some u) : (loadVar ty ⟨g, q, none⟩).run Try.prog w = .ok (.agg row) w := by
  obtain ⟨d, hu, hd⟩ := hu
  have := run_loadVar_mid (P := Try.prog) w g q ty row.toList d (fun j v hv => (cell_of_row w g (q + j) _ _ (0, 0) hg).trans (hr j v hv)) hu hd (by rw [hi, Array.length_toList])
  rwa [Array.toArray_toList] at this
theorem run_load_at {w : World} {g q : Nat} {row cur : Array Value} {ty t : TypeId} (hi : (Try.prog.info? ty).map (·.size) = some row.size) (hu : ∃ d, Try.prog.underlying ty = some d ∧ d.isRow = true)
    (hg : w.heap[g]? = some (.cells cur t (0, 0))) (hr : ∀ j u, row.toList[j]? = some u → cur[q + j]? = some u) : (Instr.loadAt ty (.pointer (some ⟨g, q, none⟩))).run Try.prog w = .ok (.agg row) w := by
  simp only [Instr.loadAt, Instr.sureAddr, Sem.run_bind, Sem.run_pure, Result.andThen]
  exact run_loadVar_at hi hu hg hr
theorem own_row (row : Array Value) : ∀ j u, row.toList[j]? = some u → row[0 + j]? = some u := fun j u h => by rwa [Nat.zero_add, ← Array.getElem?_toList]
theorem run_loadVar_blk {w : World} {g : Nat} {row : Array Value} {ty t : TypeId} (hi : (Try.prog.info? ty).map (·.size) = some row.size) (hu : ∃ d, Try.prog.underlying ty = some d ∧ d.isRow = true) (hg : w.heap[g]? = some (.cells row t (0, 0))) : (loadVar ty ⟨g, 0, none⟩).run Try.prog w = .ok (.agg row) w :=
  run_loadVar_at hi hu hg (own_row row)
theorem run_load_blk {w : World} {g : Nat} {row : Array Value} {ty t : TypeId} (hi : (Try.prog.info? ty).map (·.size) = some row.size) (hu : ∃ d, Try.prog.underlying ty = some d ∧ d.isRow = true) (hg : w.heap[g]? = some (.cells row t (0, 0))) : (Instr.loadAt ty (.pointer (some ⟨g, 0, none⟩))).run Try.prog w = .ok (.agg row) w :=
  run_load_at hi hu hg (own_row row)
theorem wpList_ldM {ops : Array Oper} {rest : List Oper} {o : Oper} {a : Act} {Q : Exit → Act → World → Prop} {w : World} {g q : Nat} {row cur : Array Value} {ty t : TypeId} (hi : (Try.prog.info? ty).map (·.size) = some row.size) (hu : ∃ d, Try.prog.underlying ty = some d ∧ d.isRow = true) (hgd : o.guard = none) (x : Operand) (ho : o.op = .load ty x)
    (hx : a.eval x = .pointer (some ⟨g, q, none⟩)) (hg : w.heap[g]? = some (.cells cur t (0, 0))) (hr : ∀ j u, row.toList[j]? = some u → cur[q + j]? = some u) (h : wpList Try.prog ops Q rest (a.put o.dst (.agg row)) w) : wpList Try.prog ops Q (o :: rest) a w := by
  refine wpList_plain hgd fun K hK => ?_
  have he := exec_load (P := Try.prog) (o := o) (a := a) ho hx (run_load_at hi hu hg hr)
  unfold Oper.wp
  rw [he]
  exact hK _ _ h
theorem wpList_ldB {ops : Array Oper} {rest : List Oper} {o : Oper} {a : Act} {Q : Exit → Act → World → Prop} {w : World} {g : Nat} {row : Array Value} {ty t : TypeId} (hi : (Try.prog.info? ty).map (·.size) = some row.size) (hu : ∃ d, Try.prog.underlying ty = some d ∧ d.isRow = true) (hgd : o.guard = none) (x : Operand) (ho : o.op = .load ty x)
    (hx : a.eval x = .pointer (some ⟨g, 0, none⟩)) (hg : w.heap[g]? = some (.cells row t (0, 0))) (h : wpList Try.prog ops Q rest (a.put o.dst (.agg row)) w) : wpList Try.prog ops Q (o :: rest) a w :=
  wpList_ldM hi hu hgd x ho hx hg (own_row row) h
theorem wpList_ldMh {ops : Array Oper} {rest : List Oper} {o : Oper} {a : Act} {Q : Exit → Act → World → Prop} {w : World} {g q : Nat} {row cur : Array Value} {ty t : TypeId} (hi : (Try.prog.info? ty).map (·.size) = some row.size) (hu : ∃ d, Try.prog.underlying ty = some d ∧ d.isRow = true) (hw : Region.wanted o (yielded ops a.tmps) = true) (x : Operand) (ho : o.op = .load ty x)
    (hx : a.eval x = .pointer (some ⟨g, q, none⟩)) (hg : w.heap[g]? = some (.cells cur t (0, 0))) (hr : ∀ j u, row.toList[j]? = some u → cur[q + j]? = some u) (h : wpList Try.prog ops Q rest (a.put o.dst (.agg row)) w) : wpList Try.prog ops Q (o :: rest) a w := by
  unfold wpList
  rw [if_pos hw]
  refine .inl ?_
  have he := exec_load (P := Try.prog) (o := o) (a := a) ho hx (run_load_at hi hu hg hr)
  unfold Oper.wp
  rw [he]
  exact h
theorem wpList_ldBh {ops : Array Oper} {rest : List Oper} {o : Oper} {a : Act} {Q : Exit → Act → World → Prop} {w : World} {g : Nat} {row : Array Value} {ty t : TypeId} (hi : (Try.prog.info? ty).map (·.size) = some row.size) (hu : ∃ d, Try.prog.underlying ty = some d ∧ d.isRow = true) (hw : Region.wanted o (yielded ops a.tmps) = true) (x : Operand) (ho : o.op = .load ty x)
    (hx : a.eval x = .pointer (some ⟨g, 0, none⟩)) (hg : w.heap[g]? = some (.cells row t (0, 0))) (h : wpList Try.prog ops Q rest (a.put o.dst (.agg row)) w) : wpList Try.prog ops Q (o :: rest) a w :=
  wpList_ldMh hi hu hw x ho hx hg (own_row row) h
theorem wpList_stB {ops : Array Oper} {rest : List Oper} {o : Oper} {a : Act} {Q : Exit → Act → World → Prop} {w : World} {g : Nat} {row old : Array Value} {ty t : TypeId} (hi : (Try.prog.info? ty).map (·.size) = some row.size) (h1 : row.all (·.oneCell') = true) (hgd : o.guard = none) (x y : Operand) (ho : o.op = .store ty x y)
    (hx : a.eval x = .pointer (some ⟨g, 0, none⟩)) (hy : a.eval y = .agg row) (hg : w.heap[g]? = some (.cells old t (0, 0))) (hol : old.size = row.size) (h : ∀ w', w' = w.setRow g row → wpList Try.prog ops Q rest (a.put o.dst undef) w') : wpList Try.prog ops Q (o :: rest) a w := by
  refine wpList_plain hgd fun K hK => ?_
  have hr := exec_store (P := Try.prog) (o := o) (a := a) ho hx hy (run_store_whole Try.prog ty t _ hi h1 w g _ hg hol)
  unfold Oper.wp
  rw [hr]
  exact hK _ _ (h _ rfl)
theorem results_blk {fn : Func} {p : Tmp} {ty : TypeId} (h : fn.results = #[.cell p ty]) {tmps : Array Value} {w : World} {g : Nat} {v : Value} (hp : tmps.getD p undef = .pointer (some ⟨g, 0, none⟩)) (hl : (loadVar ty ⟨g, 0, none⟩).run Try.prog w = .ok v w) :
    (results fn tmps).run Try.prog w = .ok v w := by
  have hp' : tmps[p]?.getD undef = .pointer (some ⟨g, 0, none⟩) := by rw [← hp]; simp
  simp only [results, h]
  simp [Sem.run_bind, Result.andThen, hp', asAddr, hl]
/-- One cell of a block is written. -/
theorem only_setCell {w : World} {g i : Nat} {row : Array Value} {t : TypeId} {v : Value} (h : w.heap[g]? = some (.cells row t (0, 0))) : Only g (.cells (row.setIfInBounds i v) t (0, 0)) w (w.setCell ⟨g, i, none⟩ v) :=
  ⟨rfl, rfl, rfl, by simp, heap_setCell_same _ _ i _ _ _ h, fun k hk => heap_setCell_other _ ⟨_, _, _⟩ _ _ (by simpa using hk)⟩
/-- .. by a store of one cell. -/
theorem exec_st1 {o : Oper} {a : Act} {ty : TypeId} {x y : Operand} {W : World} {g i : Nat} {row row' : Array Value} {t : TypeId} {v : Value} (hs : ∀ W : World, ∀ a : Addr, (W.cell? a).isSome = true → W.frozen? a = false → (Instr.storeAt ty (.pointer (some a)) v).run Try.prog W = .ok () (W.setCell a v))
    (ho : o.op = .store ty x y) (hx : a.eval x = .pointer (some ⟨g, i, none⟩)) (hy : a.eval y = v) (hi : i < row.size) (hr : row.setIfInBounds i v = row') (hW : W.heap[g]? = some (.cells row t (0, 0))) :
    ∃ W', (execOp a.eval o).run Try.prog W = .ok .skip W' ∧ Only g (.cells row' t (0, 0)) W W' := by
  subst hr
  refine ⟨_, exec_store ho hx hy (hs W ⟨g, i, none⟩ ?_ (frozen_of_row W g i _ _ hW)), only_setCell hW⟩
  rw [cell_of_row W g i _ _ _ hW, Array.getElem?_eq_getElem hi]
  rfl
end Go.Proofs.Ytgkiedbefogklaa
