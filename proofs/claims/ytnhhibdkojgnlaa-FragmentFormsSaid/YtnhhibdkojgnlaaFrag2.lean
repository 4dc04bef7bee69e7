/- What is proved: what none, may and New of package fragment answer when they are called; conditions: those typed. -/
import Derived.Test.YtnhhibdkojgnlaaFrag1
import Derived.Carry
set_option linter.unusedSimpArgs false
set_option linter.unusedVariables false
namespace Go.Proofs.Ytnhhibdkojgnlaa
open Go.RowKit
set_option maxRecDepth 100000
set_option maxHeartbeats 4000000
/-- What a joiner holds. -/
structure JS where
  any : Bool
  id : Int
  ended : Bool
  bytes : Int
  L : List HP
def jrow (M : Nat) (s : JS) : Array Value := #[.map (some M), .bool s.any, .int .u64 s.id, .bool s.ended, .int .i64 s.bytes]
structure JW (w : World) (J M : Nat) (s : JS) : Prop where
  hJ : w.heap[J]? = some (.cells (jrow M s) 60 (0, 0))
  hM : ∃ es k, w.heap[M]? = some (.map es k) ∧ Ents s.id es.toList s.L
  hP : ∀ p ∈ s.L, BB w p.v p.bs ∧ ∀ b, 0 < p.bs.length → p.v.ownBlock = some b → b ≠ J ∧ b ≠ M
  ne : J ≠ M
theorem JW.below {w w1 : World} {J M : Nat} {s : JS} (h : JW w J M s) (hb : Below w.heap.size w w1) : JW w1 J M s := by
  obtain ⟨es, k, h1, h2⟩ := h.hM
  exact ⟨(hb.block J (lt_of_heap h.hJ)).trans h.hJ, ⟨es, k, (hb.block M (lt_of_heap h1)).trans h1, h2⟩, fun p hp => ⟨(h.hP p hp).1.below hb, (h.hP p hp).2⟩, h.ne⟩
theorem JW.cell {w : World} {J M : Nat} {s : JS} (h : JW w J M s) : w.cell? ⟨J, 0, none⟩ = some (.map (some M)) ∧ w.cell? ⟨J, 1, none⟩ = some (.bool s.any) ∧ w.cell? ⟨J, 2, none⟩ = some (.int .u64 s.id) ∧ w.cell? ⟨J, 3, none⟩ = some (.bool s.ended) ∧ w.cell? ⟨J, 4, none⟩ = some (.int .i64 s.bytes) :=
  ⟨(cell_of_row _ _ _ _ _ _ h.hJ).trans rfl, (cell_of_row _ _ _ _ _ _ h.hJ).trans rfl, (cell_of_row _ _ _ _ _ _ h.hJ).trans rfl, (cell_of_row _ _ _ _ _ _ h.hJ).trans rfl, (cell_of_row _ _ _ _ _ _ h.hJ).trans rfl⟩
theorem none_nil (w : World) : Calls Try.prog 23 #[.pointer none] w fun e w' => e = .returned (.bool true) ∧ w' = w := by
  go_enter Try.func23, Try.ntmps23
  go_wp2_with fail
  go_ret
  exact ⟨rfl, rfl⟩
theorem none_at (J M : Nat) (w : World) (c0 : w.cell? ⟨J, 0, none⟩ = some (.map (some M))) : Calls Try.prog 23 #[.pointer (some ⟨J, 0, none⟩)] w fun e w' => e = .returned (.bool false) ∧ w' = w := by
  have g1 : ∀ w, (eqGuard .eql 58 (.tmp 9) (.const (.map none)) (.map (some M)) (.map none)).run Try.prog w = .ok () w := fun w => by kernel_rfl
  have g2 : ∀ w, (binOp .eql 58 (.map (some M)) (.map none)).run Try.prog w = .ok (.bool false) w := fun w => by kernel_rfl
  go_enter Try.func23, Try.ntmps23
  go_wp2_with fail
  go_ret
  exact ⟨rfl, rfl⟩
def mayB (n : Int) (last : Bool) (k : Nat) : Bool := decide (0 ≤ n) && (decide (n < 256) && (decide (k ≤ 1024) && (last || decide (0 < k))))
theorem may_any (id n : Int) (last : Bool) (v : Value) (bs : List Int) (w : World) (hv : BB w v bs) : Calls Try.prog 24 #[partV id n last v] w fun e w' => e = .returned (.bool (mayB n last bs.length)) ∧ Below w.heap.size w w' := by
  obtain ⟨k1, k2, A, cap, rfl, hr, k3, k4, k5⟩ := hv
  clear hr k1
  unfold partV
  have fin : ∀ b : Bool, mayB n last bs.length = b → (Calls Try.prog 24 #[.agg #[.int .u64 id, .int .i64 n, .bool last, .slice A bs.length cap]] w fun e w' => e = .returned (.bool b) ∧ Below w.heap.size w w') → Calls Try.prog 24 #[.agg #[.int .u64 id, .int .i64 n, .bool last, .slice A bs.length cap]] w fun e w' => e = .returned (.bool (mayB n last bs.length)) ∧ Below w.heap.size w w' := fun b h1 h2 => by rw [h1]; exact h2
  obtain ⟨k, hk⟩ : ∃ k, bs.length = k := ⟨_, rfl⟩
  rw [hk] at fin ⊢
  by_cases h0 : 0 ≤ n
  · by_cases h1 : n < 256
    · by_cases h2 : k ≤ 1024
      · have h2i : (k : Int) ≤ 1024 := by omega
        cases last
        · by_cases h3 : 0 < k
          · have h3i : (0 : Int) < (k : Int) := by omega
            refine fin true (by simp [mayB, *]) ?_
            clear fin
            (go_enter Try.func24, Try.ntmps24; go_wp2_with fail; go_ret; exact ⟨rfl, by (repeat' (first | (with_reducible exact Below.refl _ _) | (with_reducible assumption) | (with_reducible refine Below.alloc ?_ ?_ _) | (with_reducible refine below_setRow ?_ ?_ _) | (with_reducible refine bl_drew ?_) | (with_reducible refine bl_drewN ?_ _) | (with_reducible refine Below.setCell ?_ ?_ _) | (with_reducible refine bl_then ?_ ?_ hb) | (with_reducible refine bl_then ?_ ?_ hb1) | (with_reducible refine bl_then ?_ ?_ hb2) | (with_reducible refine bl_then ?_ ?_ hb3) | (with_reducible refine bl_then ?_ ?_ hb4) | (with_reducible refine bl_then ?_ ?_ hb5) | (with_reducible refine bl_then ?_ ?_ hb6) | (with_reducible refine bl_then ?_ ?_ hb7) | (with_reducible refine bl_then ?_ ?_ hb8) | (with_reducible exact Nat.le_refl _) | omega | (simp only [World.size_alloc, World.size_setCell, World.size_drew, size_setRow]; omega) | (simp; omega) | (simp; done)))⟩)
          · have h3i : ¬ (0 : Int) < (k : Int) := by omega
            refine fin false (by simp [mayB]; omega) ?_
            clear fin
            (go_enter Try.func24, Try.ntmps24; go_wp2_with fail; go_ret; exact ⟨rfl, by (repeat' (first | (with_reducible exact Below.refl _ _) | (with_reducible assumption) | (with_reducible refine Below.alloc ?_ ?_ _) | (with_reducible refine below_setRow ?_ ?_ _) | (with_reducible refine bl_drew ?_) | (with_reducible refine bl_drewN ?_ _) | (with_reducible refine Below.setCell ?_ ?_ _) | (with_reducible refine bl_then ?_ ?_ hb) | (with_reducible refine bl_then ?_ ?_ hb1) | (with_reducible refine bl_then ?_ ?_ hb2) | (with_reducible refine bl_then ?_ ?_ hb3) | (with_reducible refine bl_then ?_ ?_ hb4) | (with_reducible refine bl_then ?_ ?_ hb5) | (with_reducible refine bl_then ?_ ?_ hb6) | (with_reducible refine bl_then ?_ ?_ hb7) | (with_reducible refine bl_then ?_ ?_ hb8) | (with_reducible exact Nat.le_refl _) | omega | (simp only [World.size_alloc, World.size_setCell, World.size_drew, size_setRow]; omega) | (simp; omega) | (simp; done)))⟩)
        · refine fin true (by simp [mayB, *]) ?_
          clear fin
          (go_enter Try.func24, Try.ntmps24; go_wp2_with fail; go_ret; exact ⟨rfl, by (repeat' (first | (with_reducible exact Below.refl _ _) | (with_reducible assumption) | (with_reducible refine Below.alloc ?_ ?_ _) | (with_reducible refine below_setRow ?_ ?_ _) | (with_reducible refine bl_drew ?_) | (with_reducible refine bl_drewN ?_ _) | (with_reducible refine Below.setCell ?_ ?_ _) | (with_reducible refine bl_then ?_ ?_ hb) | (with_reducible refine bl_then ?_ ?_ hb1) | (with_reducible refine bl_then ?_ ?_ hb2) | (with_reducible refine bl_then ?_ ?_ hb3) | (with_reducible refine bl_then ?_ ?_ hb4) | (with_reducible refine bl_then ?_ ?_ hb5) | (with_reducible refine bl_then ?_ ?_ hb6) | (with_reducible refine bl_then ?_ ?_ hb7) | (with_reducible refine bl_then ?_ ?_ hb8) | (with_reducible exact Nat.le_refl _) | omega | (simp only [World.size_alloc, World.size_setCell, World.size_drew, size_setRow]; omega) | (simp; omega) | (simp; done)))⟩)
      · have h2i : ¬ (k : Int) ≤ 1024 := by omega
        refine fin false (by simp [mayB]; omega) ?_
        clear fin
        (go_enter Try.func24, Try.ntmps24; go_wp2_with fail; go_ret; exact ⟨rfl, by (repeat' (first | (with_reducible exact Below.refl _ _) | (with_reducible assumption) | (with_reducible refine Below.alloc ?_ ?_ _) | (with_reducible refine below_setRow ?_ ?_ _) | (with_reducible refine bl_drew ?_) | (with_reducible refine bl_drewN ?_ _) | (with_reducible refine Below.setCell ?_ ?_ _) | (with_reducible refine bl_then ?_ ?_ hb) | (with_reducible refine bl_then ?_ ?_ hb1) | (with_reducible refine bl_then ?_ ?_ hb2) | (with_reducible refine bl_then ?_ ?_ hb3) | (with_reducible refine bl_then ?_ ?_ hb4) | (with_reducible refine bl_then ?_ ?_ hb5) | (with_reducible refine bl_then ?_ ?_ hb6) | (with_reducible refine bl_then ?_ ?_ hb7) | (with_reducible refine bl_then ?_ ?_ hb8) | (with_reducible exact Nat.le_refl _) | omega | (simp only [World.size_alloc, World.size_setCell, World.size_drew, size_setRow]; omega) | (simp; omega) | (simp; done)))⟩)
    · refine fin false (by simp [mayB]; omega) ?_
      clear fin
      (go_enter Try.func24, Try.ntmps24; go_wp2_with fail; go_ret; exact ⟨rfl, by (repeat' (first | (with_reducible exact Below.refl _ _) | (with_reducible assumption) | (with_reducible refine Below.alloc ?_ ?_ _) | (with_reducible refine below_setRow ?_ ?_ _) | (with_reducible refine bl_drew ?_) | (with_reducible refine bl_drewN ?_ _) | (with_reducible refine Below.setCell ?_ ?_ _) | (with_reducible refine bl_then ?_ ?_ hb) | (with_reducible refine bl_then ?_ ?_ hb1) | (with_reducible refine bl_then ?_ ?_ hb2) | (with_reducible refine bl_then ?_ ?_ hb3) | (with_reducible refine bl_then ?_ ?_ hb4) | (with_reducible refine bl_then ?_ ?_ hb5) | (with_reducible refine bl_then ?_ ?_ hb6) | (with_reducible refine bl_then ?_ ?_ hb7) | (with_reducible refine bl_then ?_ ?_ hb8) | (with_reducible exact Nat.le_refl _) | omega | (simp only [World.size_alloc, World.size_setCell, World.size_drew, size_setRow]; omega) | (simp; omega) | (simp; done)))⟩)
  · refine fin false (by simp [mayB]; omega) ?_
    clear fin
    (go_enter Try.func24, Try.ntmps24; go_wp2_with fail; go_ret; exact ⟨rfl, by (repeat' (first | (with_reducible exact Below.refl _ _) | (with_reducible assumption) | (with_reducible refine Below.alloc ?_ ?_ _) | (with_reducible refine below_setRow ?_ ?_ _) | (with_reducible refine bl_drew ?_) | (with_reducible refine bl_drewN ?_ _) | (with_reducible refine Below.setCell ?_ ?_ _) | (with_reducible refine bl_then ?_ ?_ hb) | (with_reducible refine bl_then ?_ ?_ hb1) | (with_reducible refine bl_then ?_ ?_ hb2) | (with_reducible refine bl_then ?_ ?_ hb3) | (with_reducible refine bl_then ?_ ?_ hb4) | (with_reducible refine bl_then ?_ ?_ hb5) | (with_reducible refine bl_then ?_ ?_ hb6) | (with_reducible refine bl_then ?_ ?_ hb7) | (with_reducible refine bl_then ?_ ?_ hb8) | (with_reducible exact Nat.le_refl _) | omega | (simp only [World.size_alloc, World.size_setCell, World.size_drew, size_setRow]; omega) | (simp; omega) | (simp; done)))⟩)
theorem new_any (w : World) : Calls Try.prog 7 #[] w fun e w' => e = .returned (.pointer (some ⟨w.heap.size + 1, 0, none⟩)) ∧ JW w' (w.heap.size + 1) w.heap.size ⟨false, 0, false, 0, []⟩ ∧ Below w.heap.size w w' := by
  have hmm := @run_makeMap Try.prog
  go_enter Try.func7, Try.ntmps7
  go_wp2_with fail
  go_ret
  refine ⟨rfl, ⟨?_, ⟨#[], 0, ?_, trivial⟩, by simp, by omega⟩, by (repeat' (first | (with_reducible exact Below.refl _ _) | (with_reducible assumption) | (with_reducible refine Below.alloc ?_ ?_ _) | (with_reducible refine below_setRow ?_ ?_ _) | (with_reducible refine bl_drew ?_) | (with_reducible refine bl_drewN ?_ _) | (with_reducible refine Below.setCell ?_ ?_ _) | (with_reducible refine bl_then ?_ ?_ hb) | (with_reducible refine bl_then ?_ ?_ hb1) | (with_reducible refine bl_then ?_ ?_ hb2) | (with_reducible refine bl_then ?_ ?_ hb3) | (with_reducible refine bl_then ?_ ?_ hb4) | (with_reducible refine bl_then ?_ ?_ hb5) | (with_reducible refine bl_then ?_ ?_ hb6) | (with_reducible refine bl_then ?_ ?_ hb7) | (with_reducible refine bl_then ?_ ?_ hb8) | (with_reducible exact Nat.le_refl _) | omega | (simp only [World.size_alloc, World.size_setCell, World.size_drew, size_setRow]; omega) | (simp; omega) | (simp; done)))⟩
  · rw [heap_alloc_if, if_pos (by simp)]; rfl
  · rw [heap_alloc_if, if_neg (by simp), heap_alloc_if, if_pos rfl]
end Go.Proofs.Ytnhhibdkojgnlaa
