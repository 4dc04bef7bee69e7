/- What is proved: cells that are made of a style that may be may be, with whatever marks (plain); cells in a row in memory; no condition. -/
import Derived.Test.YtlejmllacikmeaaCell15
set_option linter.unusedSimpArgs false
set_option linter.unusedVariables false
namespace Go.Proofs.Ytlejmllacikmeaa
open Go.RowKit
set_option maxRecDepth 100000
set_option maxHeartbeats 4000000
theorem may_blank (s : Sty) (h : maySt s = true) : mayC (blankS s) = true := by
  have h1 : maySt ⟨-1, s.bg, 0⟩ = true := by
    unfold maySt at h ⊢
    simp only [Bool.and_eq_true] at h ⊢
    exact ⟨by decide, h.2⟩
  have h2 : widthOf 32 = 1 := by decide +kernel
  unfold mayC blankS
  simp only [h1, h2]
  rfl
theorem may_blank_not : mayC (blankS ⟨0, 256, 0⟩) = false := by decide +kernel
/-- A cell that may be, and whose width is a width. -/
def goodC (x : Cel) : Prop := mayC x = true ∧ 0 ≤ x.w ∧ x.w ≤ 255
theorem put_good (c : Int) (s : Sty) (h : maySt s = true) : ∀ x ∈ putS c s, goodC x := by
  intro x hx
  unfold putS at hx
  split at hx
  · rename_i h1
    simp only [List.mem_cons, List.not_mem_nil, or_false] at hx
    subst hx
    refine ⟨?_, (by dsimp only; decide), (by dsimp only; decide)⟩
    unfold mayC
    simp only [h, h1]
    rfl
  · split at hx
    · rename_i h1 h2
      simp only [List.mem_cons, List.not_mem_nil, or_false] at hx
      rcases hx with rfl | rfl
      · refine ⟨?_, (by dsimp only; decide), (by dsimp only; decide)⟩
        unfold mayC
        simp only [h, h2]
        rfl
      · refine ⟨?_, (by dsimp only; decide), (by dsimp only; decide)⟩
        unfold mayC
        simp only [h]
        rfl
    · simp at hx
theorem marks0 (m0 m1 m2 : Int) : marksF false [m0, m1, m2] = true ↔ (m0 = 0 ∧ m1 = 0 ∧ m2 = 0) ∨ (m0 ≠ 0 ∧ widthOf m0 = 0 ∧ ((m1 = 0 ∧ m2 = 0) ∨ (m1 ≠ 0 ∧ widthOf m1 = 0 ∧ (m2 = 0 ∨ (m2 ≠ 0 ∧ widthOf m2 = 0))))) := by
  simp only [marksF]
  by_cases h0 : m0 = 0 <;> by_cases h1 : m1 = 0 <;> by_cases h2 : m2 = 0 <;> by_cases w0 : widthOf m0 = 0 <;> by_cases w1 : widthOf m1 = 0 <;> by_cases w2 : widthOf m2 = 0 <;> simp [*]
theorem mark_good (x : Cel) (c : Int) (h : goodC x) : goodC (markS x c) ∧ (markS x c).c = x.c := by
  obtain ⟨ch, m0, m1, m2, wd, s⟩ := x
  obtain ⟨hm, h0, h1⟩ := h
  unfold markS
  split
  · rename_i hz
    split
    · exact ⟨⟨hm, h0, h1⟩, rfl⟩
    · split
      · exact ⟨⟨hm, h0, h1⟩, rfl⟩
      · rename_i hw0 hw2
        dsimp only at hw0 hw2 h0 h1
        unfold mayC at hm
        dsimp only at hm
        split at hm
        · rename_i hs
          split at hm
          · rename_i hw
            have hmk := (marks0 _ _ _).1 hm
            have key : ∀ y : Cel, y.s = s → y.w = wd → y.c = ch → marksF false [y.m0, y.m1, y.m2] = true → goodC y ∧ y.c = ch := by
              intro y e1 e2 e3 e4
              refine ⟨⟨?_, by omega, by omega⟩, e3⟩
              unfold mayC
              rw [e1, if_pos hs, e2, if_neg hw0, if_neg hw2, e3, if_pos hw]
              exact e4
            simp only [mkF]
            rcases hmk with ⟨rfl, rfl, rfl⟩ | ⟨a0, b0, ⟨rfl, rfl⟩ | ⟨a1, b1, rfl | ⟨a2, b2⟩⟩⟩
            · rw [if_pos (by rfl)]
              refine key _ rfl rfl rfl ((marks0 _ _ _).2 ?_)
              by_cases hc : c = 0
              · exact .inl ⟨hc, rfl, rfl⟩
              · exact .inr ⟨hc, hz, .inl ⟨rfl, rfl⟩⟩
            · rw [if_neg (by simpa using a0), if_pos (by rfl)]
              refine key _ rfl rfl rfl ((marks0 _ _ _).2 ?_)
              by_cases hc : c = 0
              · exact .inr ⟨a0, b0, .inl ⟨hc, rfl⟩⟩
              · exact .inr ⟨a0, b0, .inr ⟨hc, hz, .inl rfl⟩⟩
            · rw [if_neg (by simpa using a0), if_neg (by simpa using a1), if_pos (by rfl)]
              refine key _ rfl rfl rfl ((marks0 _ _ _).2 ?_)
              by_cases hc : c = 0
              · exact .inr ⟨a0, b0, .inr ⟨a1, b1, .inl hc⟩⟩
              · exact .inr ⟨a0, b0, .inr ⟨a1, b1, .inr ⟨hc, hz⟩⟩⟩
            · rw [if_neg (by simpa using a0), if_neg (by simpa using a1), if_neg (by simpa using a2)]
              exact key _ rfl rfl rfl hm
          · cases hm
        · cases hm
  · exact ⟨⟨hm, h0, h1⟩, rfl⟩
theorem flatX_get (X : List Cel) (k j : Nat) (x : Cel) (hx : X[k]? = some x) (u : Value) (hj : j < 15) (hu : x.row.toList[j]? = some u) : (flatX X)[15 * k + j]? = some u := by
  induction X generalizing k with
  | nil => simp at hx
  | cons y ys ih =>
    have hl : y.row.toList.length = 15 := rfl
    have e : flatX (y :: ys) = y.row.toList ++ flatX ys := rfl
    rw [e]
    cases k with
    | zero =>
      simp only [List.getElem?_cons_zero, Option.some.injEq] at hx
      subst hx
      rw [List.getElem?_append_left (by omega), Nat.mul_zero, Nat.zero_add]
      exact hu
    | succ k =>
      rw [List.getElem?_append_right (by omega), show 15 * (k + 1) + j - y.row.toList.length = 15 * k + j by omega]
      exact ih k (by simpa using hx)
/-- A row of cells in memory. -/
def RdX (w : World) (A : Option Addr) (X : List Cel) : Prop := ∀ k x, X[k]? = some x → ∃ g cur t, A = some ⟨g, 0, none⟩ ∧ w.heap[g]? = some (.cells cur t (0, 0)) ∧ ∀ j u, x.row.toList[j]? = some u → cur[15 * k + j]? = some u
theorem RdX.below {w w1 : World} {A : Option Addr} {X : List Cel} (h : RdX w A X) (hb : Below w.heap.size w w1) : RdX w1 A X := by
  intro k x hx
  obtain ⟨g, cur, t, h1, h2, h3⟩ := h k x hx
  exact ⟨g, cur, t, h1, (hb.block g (lt_of_heap h2)).trans h2, h3⟩
theorem RdX.of {w : World} {v : Value} {x : Option (Nat × Obj)} {X : List Cel} {e : TypeId} (h : OwX e 15 v x X.length (flatX X)) (hx : ∀ g o, x = some (g, o) → w.heap[g]? = some o) : ∃ A cap, v = .slice A X.length cap ∧ RdX w A X ∧ X.length ≤ cap := by
  obtain ⟨hl, ⟨h1, h2, h3⟩ | ⟨g, cap, cur, h1, h2, h4, h5, h6, h7⟩⟩ := h
  · refine ⟨none, 0, by rw [h1, h2], ?_, by omega⟩
    intro k x hk
    rw [List.length_eq_zero_iff.1 h2] at hk
    simp at hk
  · refine ⟨_, _, h1, ?_, h4⟩
    intro k x hk
    refine ⟨g, cur, e, rfl, hx _ _ h2, fun j u hu => ?_⟩
    have hj : j < 15 := by
      have := (List.getElem?_eq_some_iff.1 hu).1
      exact this
    have h8 := flatX_get X k j x hk u hj hu
    rw [← h7, List.getElem?_take] at h8
    split at h8
    · rw [Array.getElem?_toList] at h8
      exact h8
    · cases h8
/-- The whole of a struct is read out of a row. -/
theorem wpList_ldM {ops : Array Oper} {rest : List Oper} {o : Oper} {a : Act} {Q : Exit → Act → World → Prop} {w : World} {g q : Nat} {row cur : Array Value} {ty t : TypeId} (hi : (Try.prog.info? ty).map (·.size) = some row.size) (hu : ∃ d, Try.prog.underlying ty = some d ∧ d.isRow = true) (hgd : o.guard = none) (x : Operand) (ho : o.op = .load ty x)
    (hx : a.eval x = .pointer (some ⟨g, q, none⟩)) (hg : w.heap[g]? = some (.cells cur t (0, 0))) (hr : ∀ j u, row.toList[j]? = some u → cur[q + j]? = some u) (h : wpList Try.prog ops Q rest (a.put o.dst (.agg row)) w) : wpList Try.prog ops Q (o :: rest) a w := by
  refine wpList_plain hgd fun K hK => ?_
  obtain ⟨d, hu, hd⟩ := hu
  have hl : (loadVar ty ⟨g, q, none⟩).run Try.prog w = .ok (.agg row) w := by
    have := run_loadVar_mid (P := Try.prog) w g q ty row.toList d (fun j v hv => (cell_of_row w g (q + j) _ _ (0, 0) hg).trans (hr j v hv)) hu hd (by rw [hi, Array.length_toList])
    rwa [Array.toArray_toList] at this
  have he : (execOp a.eval o).run Try.prog w = .ok (.value (.agg row)) w := by
    refine exec_load ho hx ?_
    simp only [Instr.loadAt, Instr.sureAddr, Sem.run_bind, Sem.run_pure, Result.andThen]
    exact hl
  unfold Oper.wp
  rw [he]
  exact hK _ _ h
end Go.Proofs.Ytlejmllacikmeaa
