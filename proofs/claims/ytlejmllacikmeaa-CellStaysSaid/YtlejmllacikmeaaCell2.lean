/- What is proved: styles in memory, read and written whole; what lies where while Apply runs; conditions: those typed. -/
import Derived.Test.YtlejmllacikmeaaCell1
import Derived.Test.YtlejmllacikmeaaOrderTrail
import Derived.Test.YtlejmllacikmeaaEff
import Derived.Deep.MidRow
set_option linter.unusedSimpArgs false
set_option linter.unusedVariables false
namespace Go.Proofs.Ytlejmllacikmeaa
open Go.RowKit
set_option maxRecDepth 100000
set_option maxHeartbeats 4000000
theorem RdI.blocks {w w1 : World} {xs : List Int} {k : IntKind} {A : Option Addr} {n : Nat} (h : RdI w k A n xs) (hk : ∀ b off, 0 < n → A = some ⟨b, off, none⟩ → w1.heap[b]? = w.heap[b]?) : RdI w1 k A n xs := by
  refine ⟨h.1, fun hn => ?_⟩
  obtain ⟨b, off, rfl, hc⟩ := h.2 hn
  exact ⟨b, off, rfl, fun j hj => (World.cell?_of_block (hk b off hn rfl)).trans (hc j hj)⟩
/-- Where the rest of a slice begins. -/
def restA (A : Option Addr) (cap n : Nat) : Option Addr := if cap = n then A else A.map (·.add n)
theorem run_rest (A : Option Addr) (l cap n : Nat) (hn : n ≤ l) (W : World) : (Instr.slice 24 (.slice A l cap) (some (.int .i64 n)) none none).run Try.prog W = .ok (.slice (restA A cap n) (l - n) (cap - n)) W := by
  obtain ⟨i, hi, hz⟩ : ∃ i, Try.prog.info? 3 = some i ∧ i.size = 1 := by
    obtain ⟨i, h, h2⟩ := Option.map_eq_some_iff.1 (show (Try.prog.info? 3).map (fun i => i.size) = some 1 by kernel_rfl)
    exact ⟨i, h, h2⟩
  rw [run_slice_from Try.prog 24 3 Try.underlying24 i hi hz A l cap n hn W]
  rfl
theorem run_restAt (A : Option Addr) (l cap n : Nat) (hn : n ≤ l) (W : World) : (Instr.sliceAt 24 (.slice A l cap) (some (.int .i64 n)) none none).run Try.prog W = .ok (.slice (restA A cap n) (l - n) (cap - n)) W := by
  rw [← run_rest A l cap n hn W]
  simp [Instr.sliceAt, run_underlying Try.underlying24]
theorem exec_load {P : Program} {o : Oper} {a : Act} {ty : TypeId} {x : Operand} {p v : Value} {w : World} (ho : o.op = .load ty x) (hx : a.eval x = p) (h : (Instr.loadAt ty p).run P w = .ok v w) : (execOp a.eval o).run P w = .ok (.value v) w := by
  unfold execOp
  simp only [ho, hx, Sem.run_bind, h, Result.andThen_ok]
  rfl
theorem Sty.size (s : Sty) : s.row.size = 10 := rfl
theorem Sty.one (s : Sty) : s.row.all (·.oneCell') = true := by
  obtain ⟨fg, bg, b⟩ := s
  simp [Sty.row, Value.oneCell']
theorem styInfo : (Try.prog.info? 23).map (·.size) = some 10 := by kernel_rfl
theorem run_loadVar_sty {w : World} {g : Nat} {s : Sty} {t : TypeId} (hg : w.heap[g]? = some (.cells s.row t (0, 0))) : (loadVar 23 ⟨g, 0, none⟩).run Try.prog w = .ok s.val w := by
  obtain ⟨d, hu, hd⟩ : ∃ d, Try.prog.underlying 23 = some d ∧ d.isRow = true := ⟨_, Try.underlying23, rfl⟩
  have h := run_loadVar_mid (P := Try.prog) w g 0 23 s.row.toList d (fun j v hv => by
    rw [Array.getElem?_toList] at hv
    rw [Nat.zero_add, cell_of_row w g j _ _ (0, 0) hg]
    exact hv) hu hd (by rw [styInfo, Array.length_toList, Sty.size])
  rw [Array.toArray_toList] at h
  exact h
theorem run_load_sty {w : World} {g : Nat} {s : Sty} {t : TypeId} (hg : w.heap[g]? = some (.cells s.row t (0, 0))) : (Instr.loadAt 23 (.pointer (some ⟨g, 0, none⟩))).run Try.prog w = .ok s.val w := by
  simp only [Instr.loadAt, Instr.sureAddr, Sem.run_bind, Sem.run_pure, Result.andThen]
  exact run_loadVar_sty hg
theorem run_store_sty {w : World} {g : Nat} {s s' : Sty} {t : TypeId} (hg : w.heap[g]? = some (.cells s.row t (0, 0))) : (Instr.storeAt 23 (.pointer (some ⟨g, 0, none⟩)) s'.val).run Try.prog w = .ok () (w.setRow g s'.row) :=
  run_store_whole Try.prog 23 t _ (by rw [styInfo, Sty.size]) (Sty.one _) w g _ hg (by rw [Sty.size, Sty.size])
theorem wpList_ldS {ops : Array Oper} {rest : List Oper} {o : Oper} {a : Act} {Q : Exit → Act → World → Prop} {w : World} {g : Nat} {s : Sty} {t : TypeId} (hgd : o.guard = none) (x : Operand) (ho : o.op = .load 23 x)
    (hx : a.eval x = .pointer (some ⟨g, 0, none⟩)) (hg : w.heap[g]? = some (.cells s.row t (0, 0))) (h : wpList Try.prog ops Q rest (a.put o.dst s.val) w) : wpList Try.prog ops Q (o :: rest) a w := by
  refine wpList_plain hgd fun K hK => ?_
  have hr := exec_load (P := Try.prog) (o := o) (a := a) ho hx (run_load_sty hg)
  unfold Oper.wp
  rw [hr]
  exact hK _ _ h
theorem wpList_stS {ops : Array Oper} {rest : List Oper} {o : Oper} {a : Act} {Q : Exit → Act → World → Prop} {w : World} {g : Nat} {s s' : Sty} {t : TypeId} (hgd : o.guard = none) (x y : Operand) (ho : o.op = .store 23 x y)
    (hx : a.eval x = .pointer (some ⟨g, 0, none⟩)) (hy : a.eval y = s'.val) (hg : w.heap[g]? = some (.cells s.row t (0, 0))) (h : ∀ w', w' = w.setRow g s'.row → wpList Try.prog ops Q rest (a.put o.dst undef) w') : wpList Try.prog ops Q (o :: rest) a w := by
  refine wpList_plain hgd fun K hK => ?_
  have hr := exec_store (P := Try.prog) (o := o) (a := a) ho hx hy (run_store_sty hg)
  unfold Oper.wp
  rw [hr]
  exact hK _ _ (h _ rfl)
theorem results_style {fn : Func} {p : Tmp} (h : fn.results = #[.cell p 23]) {tmps : Array Value} {w : World} {g : Nat} {s : Sty} {t : TypeId} (hp : tmps.getD p undef = .pointer (some ⟨g, 0, none⟩)) (hg : w.heap[g]? = some (.cells s.row t (0, 0))) :
    (results fn tmps).run Try.prog w = .ok s.val w := by
  have hp' : tmps[p]?.getD undef = .pointer (some ⟨g, 0, none⟩) := by rw [← hp]; simp
  simp only [results, h]
  simp [Sem.run_bind, Result.andThen, hp', asAddr, run_loadVar_sty hg]
def zeroS : Sty := ⟨0, 0, 0⟩
/-- What lies where while a style is made: the style at B, the answer's place behind it, the parameters' rest elsewhere. -/
structure CS (w wr : World) (B : Nat) (A : Option Addr) (n : Nat) (zs : List Int) (s : Sty) : Prop where
  rd : RdI wr .i64 A n zs
  aw : ∀ a : Addr, A = some a → a.block ≠ B ∧ a.block ≠ B + 1
  hB : wr.heap[B]? = some (.cells s.row 23 (0, 0))
  hR : wr.heap[B + 1]? = some (.cells zeroS.row 23 (0, 0))
  hL : Below B w wr
  sz : w.heap.size = B
section
variable {w wr w1 : World} {B n : Nat} {A : Option Addr} {zs : List Int} {s : Sty}
theorem CS.below (h : CS w wr B A n zs s) (hb : Below wr.heap.size wr w1) : CS w w1 B A n zs s :=
  ⟨h.rd.below hb, h.aw, (hb.block B (lt_of_heap h.hB)).trans h.hB, (hb.block (B + 1) (lt_of_heap h.hR)).trans h.hR, bl_then h.hL (by have := lt_of_heap h.hB; omega) hb, h.sz⟩
theorem CS.set (h : CS w wr B A n zs s) (s' : Sty) : CS w (wr.setRow B s'.row) B A n zs s' := by
  refine ⟨h.rd.blocks fun b off hn hA => ?_, h.aw, setRow_heap _ _ _ _ _ _ h.hB, ?_, below_setRow h.hL (by omega) _, h.sz⟩
  · rw [heap_setRow_if, if_neg (h.aw _ hA).1]
  · rw [heap_setRow_if, if_neg (by omega)]; exact h.hR
theorem CS.fg (h : CS w wr B A n zs s) (x : Int) : CS w (wr.setCell ⟨B, 0, none⟩ (.int .i64 x)) B A n zs ⟨x, s.bg, s.b⟩ := by
  refine ⟨h.rd.blocks fun b off hn hA => heap_setCell_other _ ⟨_, _, _⟩ _ _ (by simpa using (h.aw _ hA).1), h.aw, ?_, (heap_setCell_other _ ⟨_, _, _⟩ _ _ (by simp)).trans h.hR, h.hL.setCell (by simp) _, h.sz⟩
  refine (heap_setCell_same _ _ 0 _ _ _ h.hB).trans ?_
  rfl
theorem CS.bg (h : CS w wr B A n zs s) (x : Int) : CS w (wr.setCell ⟨B, 1, none⟩ (.int .i64 x)) B A n zs ⟨s.fg, x, s.b⟩ := by
  refine ⟨h.rd.blocks fun b off hn hA => heap_setCell_other _ ⟨_, _, _⟩ _ _ (by simpa using (h.aw _ hA).1), h.aw, ?_, (heap_setCell_other _ ⟨_, _, _⟩ _ _ (by simp)).trans h.hR, h.hL.setCell (by simp) _, h.sz⟩
  refine (heap_setCell_same _ _ 1 _ _ _ h.hB).trans ?_
  rfl
theorem CS.rest (h : CS w wr B A n zs s) {m cap : Nat} (hm : m ≤ n) (hc : n ≤ cap) : CS w wr B (restA A cap m) (n - m) (zs.drop m) s := by
  refine ⟨h.rd.drop hm hc, ?_, h.hB, h.hR, h.hL, h.sz⟩
  intro a hA
  unfold restA at hA
  split at hA
  · exact h.aw a hA
  · cases A with
    | none => cases hA
    | some x =>
      simp only [Option.map_some, Option.some.injEq] at hA
      have e : a.block = x.block := by rw [← hA]; unfold Addr.add; split <;> rfl
      rw [e]
      exact h.aw x rfl
theorem restA_at {b off cap n : Nat} (h : n < cap) : restA (some ⟨b, off, none⟩) cap n = some ⟨b, off + n, none⟩ := by
  unfold restA
  rw [if_neg (by omega)]
  simp only [Option.map_some, Addr.add]
  split
  · rename_i h0; subst h0; rfl
  · rfl
end
end Go.Proofs.Ytlejmllacikmeaa
