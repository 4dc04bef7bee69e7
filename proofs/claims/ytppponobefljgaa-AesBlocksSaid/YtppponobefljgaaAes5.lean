/- What is proved: what it does to a row of bytes that bytes are laid over its middle, by a store or by a copy; no condition beyond those typed. -/
import Derived.Test.YtppponobefljgaaAes4
import Derived.Laws.CopyRow
set_option linter.unusedSimpArgs false
set_option linter.unusedVariables false
namespace Go.Proofs.Ytppponobefljgaa
open Go.RowKit
set_option maxRecDepth 100000
set_option maxHeartbeats 4000000
/-- G laid over F, from place o on, m bytes. -/
def ovr (F : Nat → Int) (o m : Nat) (G : Nat → Int) : Nat → Int := fun j => if o ≤ j ∧ j < o + m then G (j - o) else F j
theorem splice_rwb {n o m : Nat} (F G : Nat → Int) (h : o + m ≤ n) : ((rwb n F).toList.take o ++ (rwb m G).toList ++ (rwb n F).toList.drop (o + m)).toArray = rwb n (ovr F o m G) := by
  apply Array.ext_getElem?
  intro j
  rw [List.getElem?_toArray]
  have hl1 : ((rwb n F).toList.take o).length = o := by rw [List.length_take, Array.length_toList, rwb_size]; omega
  have hl2 : (rwb m G).toList.length = m := by rw [Array.length_toList, rwb_size]
  by_cases hj : j < n
  · rw [rwb_get _ hj]
    unfold ovr
    rcases (by omega : j < o ∨ (o ≤ j ∧ j < o + m) ∨ o + m ≤ j) with h1 | h1 | h1
    · rw [if_neg (by omega), List.append_assoc, List.getElem?_append_left (by omega), List.getElem?_take_of_lt h1, Array.getElem?_toList, rwb_get _ hj]
    · rw [if_pos h1, List.getElem?_append_left (by rw [List.length_append]; omega), List.getElem?_append_right (by omega), hl1, Array.getElem?_toList, rwb_get _ (by omega)]
    · rw [if_neg (by omega), List.getElem?_append_right (by rw [List.length_append]; omega), List.length_append, hl1, hl2, List.getElem?_drop, Array.getElem?_toList, rwb_get _ (by omega)]
      congr 3
      omega
  · rw [List.getElem?_eq_none (by simp [rwb_size]; omega), Array.getElem?_eq_none (by rw [rwb_size]; omega)]
theorem mem_one {m : Nat} {G : Nat → Int} : ∀ v ∈ (rwb m G).toList, v.oneCell' = true := fun v hv => (Array.all_eq_true_iff_forall_mem.1 (rwb_one m G)) v (by simpa using hv)
theorem run_storeVar_ovr {w : World} {g n o m : Nat} {F G : Nat → Int} {t ty : TypeId} (hT : RowT ty m) (hg : w.heap[g]? = some (.cells (rwb n F) t (0, 0))) (h : o + m ≤ n) :
    (storeVar ty ⟨g, o, none⟩ (.agg (rwb m G))).run Try.prog w = .ok () (w.setRow g (rwb n (ovr F o m G))) := by
  have hst := run_storeCells_at Try.prog g o t (rwb m G).toList 0 (rwb n F) w hg (by rw [Array.length_toList, rwb_size, rwb_size]; omega) mem_one
  have hs := hT.size
  cases hq : Try.prog.info? ty with
  | none => simp [hq] at hs
  | some i =>
    have hsz : i.size = m := by simpa [hq] using hs
    simp only [Nat.zero_add, Nat.add_zero, Array.length_toList, rwb_size, splice_rwb F G h] at hst
    simp [storeVar, sizeOf, typeInfo, hq, Value.cells, hsz, rwb_size, hst]
theorem run_store_ovr {w : World} {g n o m : Nat} {F G : Nat → Int} {t ty : TypeId} (hT : RowT ty m) (hg : w.heap[g]? = some (.cells (rwb n F) t (0, 0))) (h : o + m ≤ n) :
    (Instr.storeAt ty (.pointer (some ⟨g, o, none⟩)) (.agg (rwb m G))).run Try.prog w = .ok () (w.setRow g (rwb n (ovr F o m G))) := by
  simp only [Instr.storeAt, Instr.sureAddr, Sem.run_bind, Sem.run_pure, Result.andThen_ok, run_storeVar_ovr hT hg h]
/-- A row has been laid anew. -/
structure Laid (w w' : World) (g : Nat) (c : Array Value) : Prop where
  eq : w' = w.setRow g c
theorem wpList_stO {ops : Array Oper} {rest : List Oper} {o : Oper} {a : Act} {Q : Exit → Act → World → Prop} {w : World} {g n off m : Nat} {F G : Nat → Int} {t ty : TypeId} (hT : RowT ty m) (hgd : o.guard = none) (x y : Operand) (ho : o.op = .store ty x y)
    (hx : a.eval x = .pointer (some ⟨g, off, none⟩)) (hy : a.eval y = .agg (rwb m G)) (hg : w.heap[g]? = some (.cells (rwb n F) t (0, 0))) (hm : off + m ≤ n) (h : ∀ w', Laid w w' g (rwb n (ovr F off m G)) → wpList Try.prog ops Q rest (a.put o.dst undef) w') : wpList Try.prog ops Q (o :: rest) a w := by
  refine wpList_plain hgd fun K hK => ?_
  have hr := exec_store (P := Try.prog) (o := o) (a := a) ho hx hy (run_store_ovr hT hg hm)
  unfold Oper.wp
  rw [hr]
  exact hK _ _ (h _ ⟨rfl⟩)
theorem Laid.here {w w' : World} {g : Nat} {c old : Array Value} {t : TypeId} (h : Laid w w' g c) (hg : w.heap[g]? = some (.cells old t (0, 0))) : w'.heap[g]? = some (.cells c t (0, 0)) := by rw [h.eq]; exact setRow_heap _ _ _ _ _ _ hg
theorem Laid.far {w w' : World} {g k : Nat} {c : Array Value} {o : Obj} (h : Laid w w' g c) (hk : w.heap[k]? = some o) (hne : k ≠ g) : w'.heap[k]? = some o := by rw [h.eq]; exact (setRow_other w g k c hne).trans hk
theorem Laid.below {w0 w w' : World} {B g : Nat} {c : Array Value} (h : Laid w w' g c) (hb : Below B w0 w) (hg : B ≤ g) : Below B w0 w' := by rw [h.eq]; exact below_setRow hb hg c
theorem Laid.size {w w' : World} {g : Nat} {c : Array Value} (h : Laid w w' g c) : w'.heap.size = w.heap.size := by rw [h.eq]; exact size_setRow _ _ _
theorem run_copy_ovr {w : World} {g n o m d dc g' n' o' l lc : Nat} {ty : TypeId} {F F' G : Nat → Int} {t t' : TypeId} (hg : w.heap[g]? = some (.cells (rwb n F) t (0, 0))) (hg' : w.heap[g']? = some (.cells (rwb n' F') t' (0, 0))) (hm : m = min l d) (h : o + m ≤ n) (h' : o' + m ≤ n') (hG : ∀ j, j < m → F' (o' + j) = G j) :
    (Builtin.copy_ #[52, 52] ty #[.slice (some ⟨g, o, none⟩) d dc, .slice (some ⟨g', o', none⟩) l lc]).run Try.prog w = .ok (goInt m) (w.setRow g (rwb n (ovr F o m G))) := by
  have hc := run_copy_row (P := Try.prog) w 52 52 ty 5 g o d dc ⟨g', o', none⟩ l lc (rwb n F) t (rwb m G).toList Try.underlying52 (by kernel_rfl) hg (by rw [Array.length_toList, rwb_size]; exact hm) (fun j v hv => by
    have hj : j < m := by
      have := (List.getElem?_eq_some_iff.1 hv).1
      rwa [Array.length_toList, rwb_size] at this
    rw [Array.getElem?_toList, rwb_get _ hj] at hv
    have e2 : (⟨g', o', none⟩ : Addr).add j = ⟨g', o' + j, none⟩ := by unfold Addr.add; split <;> simp_all
    rw [e2, cell_rwb hg' (by omega), hG j hj]
    exact hv) (by rw [Array.length_toList, rwb_size, rwb_size]; exact h) mem_one
  rw [Array.length_toList, rwb_size, splice_rwb F G h] at hc
  exact hc
theorem exec_copy {P : Program} {o : Oper} {a : Act} {x y : Operand} {p q v : Value} {dT sT : TypeId} {w w' : World} (ho : o.op = .call { callee := .builtin .copy, args := #[x, y], argTypes := #[dT, sT] }) (hx : a.eval x = p) (hy : a.eval y = q) (h : (Builtin.copy_ #[dT, sT] o.type #[p, q]).run P w = .ok v w') : (execOp a.eval o).run P w = .ok (.value v) w' := by
  unfold execOp
  simp [ho, resolve, invoke, builtin, hx, hy, h, Result.andThen]
/-- What a region of many operations on bytes may turn: a row of a resource. -/
theorem SeqF.copyR {ops : Array Oper} {w0 : World} {S : Nat → Prop} {K : Act → Gh → Prop} {i : Nat} {o : Oper} {r : List Oper} {ss : List Ef} {a : Act} {γ : Gh} (use : List Nat) (t g m : Nat) (old : Obj) (hγ : γ t = some (g, old)) (ht : t ∈ use) (ob : Obj) (hw : Region.wanted o (yielded ops a.tmps) = true)
    (h : ∀ γ' w, Gh.agree use γ γ' → Inv w0 S γ' w → w.heap[g]? = some old → ∃ w', (execOp a.eval o).run Try.prog w = .ok (.value (goInt m)) w' ∧ Only g ob w w')
    (k : SeqF Try.prog ops (Inv w0 S) K (i + 1) r ss (a.put o.dst (goInt m)) (γ.set (some t) (some (g, ob)))) :
    SeqF Try.prog ops (Inv w0 S) K i (o :: r) (.eff use (some t) (fun γ v x => v = goInt m ∧ ∃ g old, γ t = some (g, old) ∧ x = some (g, ob)) :: ss) a γ := by
  refine SeqF.eff use (some t) _ (fun γ' hg => by funext v x; rw [hg t ht]) hw (fun γ' w hg hI => ?_) ?_
  · have hγ' : γ' t = some (g, old) := (hg t ht).trans hγ
    obtain ⟨h1, h2⟩ := hI.here t g old hγ'
    obtain ⟨w', h3, h4⟩ := h γ' w hg hI h1
    refine ⟨_, _, w', .inl h3, ⟨rfl, g, old, hγ, rfl⟩, hI.grown (row := some g) ⟨h4.os, h4.tape, h4.output, by rw [h4.size]; exact Nat.le_refl _, fun q _ hq => h4.far q (fun e => hq (by rw [e]))⟩ t (fun q hq => ?_) h4.here (.inl rfl)⟩
    cases hq
    exact ⟨old, hγ'⟩
  · rintro v x ⟨rfl, g', old', h1, rfl⟩
    rw [hγ] at h1
    simp only [Option.some.injEq, Prod.mk.injEq] at h1
    obtain ⟨rfl, rfl⟩ := h1
    exact k
end Go.Proofs.Ytppponobefljgaa
