/- What is proved: what the reference's network holds in memory and what its methods do when they are called; conditions: it is there as it is said to be. -/
import Derived.Test.YthebhbcfacoknaaNet6
set_option linter.unusedSimpArgs false
set_option linter.unusedVariables false
namespace Go.Proofs.Ythebhbcfacoknaa
open Go.RowKit
open Go.Maps (Keyed)
set_option maxRecDepth 100000
set_option maxHeartbeats 2000000
/-- The reference's network, at T. -/
def RNet (w : World) (lab : Nat → Nat) (T : Nat) (s : NS) : Prop :=
  ∃ v0 v1, lab T = 6 ∧ w.heap[T]? = some (.cells #[v0, .int .i64 s.n0, v1, .int .i64 s.n1] 43 (0, 0)) ∧ Rows_ w lab 7 9 v0 s.l0 ∧ Rows_ w lab 8 9 v1 s.l1
theorem RNet.keep {w w1 : World} {lab lab1 : Nat → Nat} {T : Nat} {s : NS} (h : RNet w lab T s) (hk : ∀ g, g < w.heap.size → 6 ≤ lab g → lab g ≤ 9 → w1.heap[g]? = w.heap[g]?) (hl : ∀ g, g < w.heap.size → lab1 g = lab g) : RNet w1 lab1 T s := by
  obtain ⟨v0, v1, h1, h3, h4, h5⟩ := h
  have hT : T < w.heap.size := (Array.getElem?_eq_some_iff.1 h3).1
  exact ⟨v0, v1, (hl T hT).trans h1, (hk T hT (by omega) (by omega)).trans h3, h4.keep (fun g hg hgl => hk g hg (by omega) (by omega)) hl, h5.keep (fun g hg hgl => hk g hg (by omega) (by omega)) hl⟩
theorem RNet.lt {w : World} {lab : Nat → Nat} {T : Nat} {s : NS} (h : RNet w lab T s) : T < w.heap.size := by
  obtain ⟨v0, v1, h1, h3, _⟩ := h
  exact (Array.getElem?_eq_some_iff.1 h3).1
/-- Where a side's half lies. -/
def offOf (sd : Int) : Nat := if sd = 1 then 0 else 2
/-- A side's half: its row, and the next one. -/
theorem RNet.half {w : World} {lab : Nat → Nat} {T : Nat} {s : NS} (h : RNet w lab T s) {sd : Int} (hs : sd = 1 ∨ sd = 2) :
    ∃ A cap tr, w.cell? ⟨T, offOf sd, none⟩ = some (.slice A (s.half sd).length cap) ∧ w.cell? ⟨T, offOf sd + 1, none⟩ = some (.int .i64 (s.next sd)) ∧ w.frozen? ⟨T, offOf sd + 1, none⟩ = false ∧ (tr = 7 ∨ tr = 8) ∧ Rows_ w lab tr 9 (.slice A (s.half sd).length cap) (s.half sd) := by
  obtain ⟨v0, v1, h1, h3, h4, h5⟩ := h
  rcases hs with rfl | rfl
  · obtain ⟨A, cap, rfl, _⟩ := h4.form
    exact ⟨A, cap, 7, (cell_of_row w T 0 _ _ (0, 0) h3).trans rfl, (cell_of_row w T 1 _ _ (0, 0) h3).trans rfl, frozen_of_row w T 1 _ _ h3, .inl rfl, h4⟩
  · obtain ⟨A, cap, rfl, _⟩ := h5.form
    exact ⟨A, cap, 8, (cell_of_row w T 2 _ _ (0, 0) h3).trans rfl, (cell_of_row w T 3 _ _ (0, 0) h3).trans rfl, frozen_of_row w T 3 _ _ h3, .inr rfl, h5⟩
theorem RNet.setNext {w : World} {lab : Nat → Nat} {T : Nat} {s : NS} (h : RNet w lab T s) {sd : Int} (hs : sd = 1 ∨ sd = 2) (n : Nat) : RNet (w.setCell ⟨T, offOf sd + 1, none⟩ (.int .i64 n)) lab T (s.to sd n) := by
  obtain ⟨v0, v1, h1, h3, h4, h5⟩ := h
  have hk : ∀ (q : Nat) (x : Value) g, lab g ≠ 6 → (w.setCell ⟨T, q, none⟩ x).heap[g]? = w.heap[g]? := fun q x g hg => heap_setCell_other w _ g _ (fun e => hg (by rw [e]; exact h1))
  rcases hs with rfl | rfl
  · exact ⟨v0, v1, h1, (heap_setCell_same w T 1 _ _ _ h3).trans rfl, h4.keep (fun g _ hg => hk _ _ g (by omega)) (fun _ _ => rfl), h5.keep (fun g _ hg => hk _ _ g (by omega)) (fun _ _ => rfl)⟩
  · exact ⟨v0, v1, h1, (heap_setCell_same w T 3 _ _ _ h3).trans rfl, h4.keep (fun g _ hg => hk _ _ g (by omega)) (fun _ _ => rfl), h5.keep (fun g _ hg => hk _ _ g (by omega)) (fun _ _ => rfl)⟩
theorem rof_any (T : Nat) (sd : Int) (w : World) (hs : sd = 1 ∨ sd = 2) : Calls Try.prog 15 #[.pointer (some ⟨T, 0, none⟩), .int .u8 sd] w fun e w' => e = .returned (.tuple #[.pointer (some ⟨T, offOf sd, none⟩), .bool true]) ∧ w = w' := by
  rcases hs with rfl | rfl
  all_goals
    go_enter Try.func15, Try.ntmps15
    go_wp2_with fail
    go_ret2
    exact ⟨rfl, rfl⟩
theorem rof_no (T : Nat) (sd : Int) (w : World) (h1 : ¬ sd = 1) (h2 : ¬ sd = 2) : Calls Try.prog 15 #[.pointer (some ⟨T, 0, none⟩), .int .u8 sd] w fun e w' => e = .returned (.tuple #[.pointer none, .bool false]) ∧ w = w' := by
  have n1 : (sd != 1) = true := by simp [h1]
  have n2 : (sd != 2) = true := by simp [h2]
  go_enter Try.func15, Try.ntmps15
  go_wp2_with fail
  go_ret2
  exact ⟨rfl, rfl⟩
theorem rgenuine_no (T : Nat) (sd : Int) (v : Value) (w : World) (h1 : ¬ sd = 1) (h2 : ¬ sd = 2) : Calls Try.prog 18 #[.pointer (some ⟨T, 0, none⟩), .int .u8 sd, v] w fun e w' => e = .returned (.bool false) ∧ w = w' := by
  go_enter Try.func18, Try.ntmps18
  go_wp2_with fail
  refine (rof_no T sd w h1 h2).mono ?_
  rintro e w1 ⟨rfl, rfl⟩
  go_wp2_with fail
  go_ret
  exact ⟨rfl, rfl⟩
theorem rgenuine_any (lab : Nat → Nat) (T : Nat) (s : NS) (sd : Int) (v : Value) (xs : List Int) (w : World) (h : RNet w lab T s) (hs : sd = 1 ∨ sd = 2) (hv : BB w v xs) :
    Calls Try.prog 18 #[.pointer (some ⟨T, 0, none⟩), .int .u8 sd, v] w fun e w' => e = .returned (.bool (decide (xs ∈ s.half sd))) ∧ w = w' := by
  have HV := Lib.hid hv
  obtain ⟨A, cap, tr, c0, _, _, _, hr⟩ := h.half hs
  have HS := Lib.hid hs
  have hm := half_len hr
  unfold maxLen at hm
  obtain ⟨A', cap', e', hi⟩ := hr.form
  simp only [Value.slice.injEq] at e'
  obtain ⟨rfl, _, rfl⟩ := e'
  have HI := Lib.hid hi
  generalize s.half sd = L at *
  clear hv hi hr h hs
  go_enter Try.func18, Try.ntmps18
  go_wp2_with fail
  refine (rof_any T sd w HS.out).mono ?_
  rintro e w1 ⟨rfl, rfl⟩
  generalize offOf sd = off at *
  go_wp2_with fail
  go_loop [9] (fun i => ∃ k : Nat, k ≤ L.length ∧ i = .int .i64 k ∧ Hid (∀ j, j < k → L.getD j [] ≠ xs)) (fun i => L.length - (intOf i).toNat)
  case atStart => exact ⟨0, Nat.zero_le _, rfl, fun j hj => absurd hj (by omega)⟩
  case round =>
    obtain ⟨k, hk, rfl, HJ⟩ := hrel
    by_cases hlt : k < L.length
    · obtain ⟨g, u, rfl, hc, hu⟩ := HI.out k hlt
      have HU := Lib.hid hu
      clear hu
      go_wp2_with fail
      refine (same_bytes u v _ xs w HU.out HV.out).mono ?_
      rintro e w1 ⟨rfl, rfl⟩
      by_cases he : L.getD k [] = xs
      · rw [decide_eq_true he]
        have HE := Lib.hid he
        clear he
        go_wp2_with fail
        go_ret
        refine ⟨ret_bool (decide_eq_true ?_).symm, rfl⟩
        rw [← HE.out, List.getD_eq_getElem?_getD, List.getElem?_eq_getElem hlt]
        exact List.getElem_mem _
      · rw [decide_eq_false he]
        have HE := Lib.hid he
        clear he
        go_wp2_with fail
        go_round
        case rel =>
          refine ⟨k + 1, by omega, by go_num, fun j hj => ?_⟩
          rcases Nat.lt_or_eq_of_le (Nat.le_of_lt_succ hj) with h | rfl
          · exact HJ.out j h
          · exact HE.out
        case measure => simp [intOf] <;> omega
    · go_wp2_with fail
      go_ret
      refine ⟨ret_bool (decide_eq_false ?_).symm, rfl⟩
      intro hm
      obtain ⟨j, hj, rfl⟩ := List.mem_iff_getElem.1 hm
      refine HJ.out j (by omega) ?_
      rw [List.getD_eq_getElem?_getD, List.getElem?_eq_getElem hj]
      rfl
end Go.Proofs.Ythebhbcfacoknaa
