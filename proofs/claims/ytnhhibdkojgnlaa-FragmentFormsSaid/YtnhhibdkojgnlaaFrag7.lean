/- What is proved: anchored of the statements of fragment answers true; the law FragmentNil answers true; no condition. -/
import Derived.Test.YtnhhibdkojgnlaaFrag6
set_option linter.unusedSimpArgs false
set_option linter.unusedVariables false
namespace Go.Proofs.Ytnhhibdkojgnlaa
open Go.RowKit
set_option maxRecDepth 100000
set_option maxHeartbeats 8000000
theorem flatP_get (id : Int) (P : List HP) (k j : Nat) (p : HP) (hp : P[k]? = some p) (u : Value) (hj : j < 4) (hu : (prow id p).toList[j]? = some u) : (flatP id P)[k * 4 + j]? = some u := by
  induction P generalizing k with
  | nil => simp at hp
  | cons q qs ih =>
    have hl : (prow id q).toList.length = 4 := rfl
    have e : flatP id (q :: qs) = (prow id q).toList ++ flatP id qs := rfl
    rw [e]
    cases k with
    | zero =>
      simp only [List.getElem?_cons_zero, Option.some.injEq] at hp
      subst hp
      rw [List.getElem?_append_left (by omega), Nat.zero_mul, Nat.zero_add]
      exact hu
    | succ k =>
      rw [List.getElem?_append_right (by omega), show (k + 1) * 4 + j - (prow id q).toList.length = k * 4 + j by omega]
      exact ih k (by simpa using hp)
/-- The rows of parts that lie in one block. -/
theorem OwP.cells {w : World} {base : Nat} {v : Value} {id : Int} {P : List HP} (h : OwP w base v id P) (hn : 0 < P.length) : ∃ g cap cur, v = .slice (some ⟨g, 0, none⟩) P.length cap ∧ base ≤ g ∧ w.heap[g]? = some (.cells cur 33 (0, 0)) ∧ ∀ k p, P[k]? = some p → ∀ j u, (prow id p).toList[j]? = some u → cur[k * 4 + j]? = some u := by
  obtain ⟨_, ⟨_, h2⟩ | ⟨g, cap, cur, h1, hb, hh, h4, h5, h6, h7⟩⟩ := h.row
  · omega
  · refine ⟨g, cap, cur, h1, hb, hh, fun k p hp j u hu => ?_⟩
    have hj : j < 4 := (List.getElem?_eq_some_iff.1 hu).1
    have h8 := flatP_get id P k j p hp u hj hu
    rw [← h7, List.getElem?_take] at h8
    split at h8
    · rw [Array.getElem?_toList] at h8
      exact h8
    · cases h8
def s0 : JS := ⟨false, 0, false, 0, []⟩
theorem s0_ok : JOk s0 := ⟨by simp [s0], by simp [s0], by simp [s0]⟩
def s1 (v : Value) : JS := ⟨true, 7, false, 1, [⟨1, true, v, [3]⟩]⟩
def s2 : JS := ⟨true, 7, true, 0, []⟩
theorem ev1 (v : Value) : takeS s0 7 ⟨1, true, v, [3]⟩ = s1 v ∧ takeR s0 7 ⟨1, true, v, [3]⟩ = none := ⟨by kernel_rfl, by kernel_rfl⟩
theorem ev2 (v u : Value) : takeS (s1 v) 7 ⟨0, false, u, [1, 2]⟩ = s2 ∧ takeR (s1 v) 7 ⟨0, false, u, [1, 2]⟩ = some [1, 2, 3] := ⟨by kernel_rfl, by kernel_rfl⟩
theorem ev3 (u : Value) : takeS s2 7 ⟨0, false, u, [1, 2]⟩ = s2 ∧ takeR s2 7 ⟨0, false, u, [1, 2]⟩ = none := ⟨by kernel_rfl, by kernel_rfl⟩
theorem may1 : errT (mayB 1 true ([3] : List Int).length) = 0 := by kernel_rfl
theorem may2 : errT (mayB 0 false ([1, 2] : List Int).length) = 0 := by kernel_rfl
theorem s1_ok (v : Value) : JOk (s1 v) := by
  refine ⟨?_, by simp [s1], by simp [s1]⟩
  intro p hp
  obtain rfl : p = ⟨1, true, v, [3]⟩ := by simpa [s1] using hp
  simp
theorem s2_ok : JOk s2 := ⟨by simp [s2], by simp [s2], by simp [s2]⟩
theorem split_two {P : List HP} (h : P.map HP.sg = (List.range (splitN ([1, 2, 3] : List Int).length 2)).map (partS [1, 2, 3] 2)) : ∃ u v, P = [⟨0, false, u, [1, 2]⟩, ⟨1, true, v, [3]⟩] := by
  have h2 : P.map HP.sg = [(0, false, [1, 2]), (1, true, [3])] := h.trans (by kernel_rfl)
  match P, h2 with
  | [a, b], h2 =>
    simp only [List.map_cons, List.map_nil, List.cons.injEq, and_true] at h2
    obtain ⟨n, l, v, bs⟩ := a
    obtain ⟨n', l', v', bs'⟩ := b
    simp only [HP.sg, Prod.mk.injEq] at h2
    obtain ⟨⟨rfl, rfl, rfl⟩, rfl, rfl, rfl⟩ := h2
    exact ⟨v, v', rfl⟩
  | [], h2 => simp at h2
  | [a], h2 => simp at h2
  | a :: b :: c :: d, h2 => simp at h2
theorem anchored_any (w : World) : Calls Try.prog 13 #[] w fun e w' => e = .returned (.bool true) ∧ Below w.heap.size w w' := by
  obtain ⟨B, hB⟩ : ∃ B, w.heap.size = B := ⟨_, rfl⟩
  go_enter Try.func13, Try.ntmps13
  go_wp2_with fail
  have hbb : BB (w.alloc (.cells #[.int .u8 1, .int .u8 2, .int .u8 3] 5)) (.slice (some ⟨B, 0, none⟩) 3 3) [1, 2, 3] := by
    have h1 := RdI.new w .u8 5 [1, 2, 3] 3 rfl
    rw [hB] at h1
    exact ⟨by intro x hx; simp at hx; omega, by simp, _, 3, rfl, h1, by simp, by simp, by simp [maxLen]⟩
  refine (split_any 7 _ [1, 2, 3] 2 _ hbb).mono ?_
  rintro e w1 ⟨⟨vr, er, rfl, hs⟩, hb1⟩
  have hL1 : Below B w w1 := by rw [← hB]; exact bl_then (by (repeat' (first | (with_reducible exact Below.refl _ _) | (with_reducible assumption) | (with_reducible refine Below.alloc ?_ ?_ _) | (with_reducible refine below_setRow ?_ ?_ _) | (with_reducible refine bl_drew ?_) | (with_reducible refine bl_drewN ?_ _) | (with_reducible refine Below.setCell ?_ ?_ _) | (with_reducible refine bl_then ?_ ?_ hb) | (with_reducible refine bl_then ?_ ?_ hb1) | (with_reducible refine bl_then ?_ ?_ hb2) | (with_reducible refine bl_then ?_ ?_ hb3) | (with_reducible refine bl_then ?_ ?_ hb4) | (with_reducible refine bl_then ?_ ?_ hb5) | (with_reducible refine bl_then ?_ ?_ hb6) | (with_reducible refine bl_then ?_ ?_ hb7) | (with_reducible refine bl_then ?_ ?_ hb8) | (with_reducible exact Nat.le_refl _) | omega | (simp only [World.size_alloc, World.size_setCell, World.size_drew, size_setRow]; omega) | (simp; omega) | (simp; done)))) (by simp) hb1
  have hsz1 : B + 1 ≤ w1.heap.size := by have := hb1.size; simp [hB] at this; omega
  clear hbb hb1
  obtain ⟨P, rfl, hP, hsg⟩ : ∃ P, er = 0 ∧ OwP w1 (w.alloc (.cells #[.int .u8 1, .int .u8 2, .int .u8 3] 5)).heap.size vr 7 P ∧ P.map HP.sg = (List.range (splitN ([1, 2, 3] : List Int).length 2)).map (partS [1, 2, 3] 2) := by
    rcases hs with ⟨h1, h2, h3⟩ | ⟨z, h1, h2, h3, ⟨h4, h5, h6⟩ | ⟨h4, h5, P, h6, h7⟩⟩
    · omega
    · obtain rfl : z = 2 := by omega
      have : splitN ([1, 2, 3] : List Int).length 2 = 2 := by decide
      omega
    · obtain rfl : z = 2 := by omega
      exact ⟨P, h5, h6, h7⟩
  obtain ⟨u, v, rfl⟩ := split_two hsg
  obtain ⟨g, cap, cur, hvr, hgb, hg, hc⟩ := hP.cells (by simp)
  replace hvr : vr = .slice (some ⟨g, 0, none⟩) 2 cap := hvr
  subst hvr
  have hU := hP.bytes ⟨0, false, u, [1, 2]⟩ (by simp)
  have hV := hP.bytes ⟨1, true, v, [3]⟩ (by simp)
  have hU := hU.1.rd hU.2.1 hU.2.2
  have hV := hV.1.rd hV.2.1 hV.2.2
  dsimp only at hU hV
  have r0 : ∀ j x, (#[.int .u64 7, .int .i64 0, .bool false, u] : Array Value).toList[j]? = some x → cur[0 + j]? = some x := fun j x h => hc 0 _ rfl j x h
  have r1 : ∀ j x, (#[.int .u64 7, .int .i64 1, .bool true, v] : Array Value).toList[j]? = some x → cur[4 + j]? = some x := fun j x h => hc 1 _ rfl j x h
  clear hs hP hsg hc hgb
  go_wp2_with fail
  refine (new_any _).mono ?_
  rintro e w2 ⟨rfl, hj2, hb2⟩
  obtain ⟨M, hM⟩ : ∃ M, w1.heap.size = M := ⟨_, rfl⟩
  have hgM : g < M := by rw [← hM]; exact lt_of_heap hg
  have hUn : ∀ b, 0 < ([1, 2] : List Int).length → u.ownBlock = some b → ¬ (b = M + 1 ∨ b = M) := fun b h1 h2 => by have := hU.lt h1 h2; omega
  have hVn : ∀ b, 0 < ([3] : List Int).length → v.ownBlock = some b → ¬ (b = M + 1 ∨ b = M) := fun b h1 h2 => by have := hV.lt h1 h2; omega
  have hg2 := (hb2.block g (lt_of_heap hg)).trans hg
  have hU2 := hU.below hb2
  have hV2 := hV.below hb2
  have hL2 := bl_then hL1 (by omega) hb2
  have hsz2 := hb2.size
  rw [hM] at hj2 hsz2
  have hlM := lt_of_heap hj2.hJ
  clear hb2 hg hU hV hL1
  try rw [hM]
  go_wp2_with (with_reducible refine wpList_ldM (row := #[.int .u64 7, .int .i64 1, .bool true, v]) partInfo partRow rfl (.tmp 33) rfl rfl hg2 r1 ?_)
  refine (take_any (M + 1) M s0 7 1 true v [3] w2 hj2 s0_ok hV2).mono ?_
  rintro e w3 ⟨va, vc, rfl, ho, hj3, hi, -⟩
  simp only [(ev1 vc).2, may1, Option.isSome_none, Option.getD_none] at ho ⊢
  rw [(ev1 vc).1] at hj3
  have hg3 := (hi.far g (lt_of_heap hg2) (by omega)).trans hg2
  have hU3 := hU2.inv hi hUn
  have hL3 := hi.belowS hL2 (by omega) (by rintro x (rfl | rfl) <;> omega)
  have hsz3 := hi.size
  obtain ⟨A5, c5, rfl⟩ := ho.slice
  clear ho hi hg2 hU2 hV2 hj2 hL2
  go_wp2_with (with_reducible refine wpList_ldM (row := #[.int .u64 7, .int .i64 0, .bool false, u]) partInfo partRow rfl (.tmp 42) rfl rfl hg3 r0 ?_)
  refine (take_any (M + 1) M (s1 vc) 7 0 false u [1, 2] w3 hj3 (s1_ok _) hU3).mono ?_
  rintro e w4 ⟨vb, vd, rfl, ho, hj4, hi, -⟩
  simp only [(ev2 vc vd).2, may2, Option.isSome_some, Option.getD_some] at ho ⊢
  rw [(ev2 vc vd).1] at hj4
  have hg4 := (hi.far g (lt_of_heap hg3) (by omega)).trans hg3
  have hU4 := hU3.inv hi hUn
  have hL4 := hi.belowS hL3 (by omega) (by rintro x (rfl | rfl) <;> omega)
  have hsz4 := hi.size
  have hB4 : BB w4 vb [1, 2, 3] := ho.rd (by intro x hx; simp at hx; omega) (by simp)
  have hBn : ∀ b, 0 < ([1, 2, 3] : List Int).length → vb.ownBlock = some b → ¬ (b = M + 1 ∨ b = M) := fun b h1 h2 => by have := (ho.own_blk h2).1; omega
  obtain ⟨A6, c6, rfl⟩ := ho.slice
  clear ho hi hg3 hU3 hj3 hL3
  go_wp2_with (with_reducible refine wpList_ldM (row := #[.int .u64 7, .int .i64 0, .bool false, u]) partInfo partRow rfl (.tmp 51) rfl rfl hg4 r0 ?_)
  refine (take_any (M + 1) M s2 7 0 false u [1, 2] w4 hj4 s2_ok hU4).mono ?_
  rintro e w5 ⟨vx, vy, rfl, ho, hj5, hi, -⟩
  simp only [(ev3 vy).2, may2, Option.isSome_none, Option.getD_none] at ho ⊢
  have hL5 := hi.belowS hL4 (by omega) (by rintro x (rfl | rfl) <;> omega)
  have hB5 := hB4.inv hi hBn
  have hsz5 := hi.size
  obtain ⟨A7, c7, rfl⟩ := ho.slice
  clear ho hi hg4 hU4 hj4 hL4 hB4 hj5
  go_wp2_with fail
  have hbn : BB (w5.alloc (.cells #[.int .u8 1, .int .u8 2, .int .u8 3] 5)) (.slice (some ⟨w5.heap.size, 0, none⟩) 3 3) [1, 2, 3] := by
    have h1 := RdI.new w5 .u8 5 [1, 2, 3] 3 rfl
    exact ⟨by intro x hx; simp at hx; omega, by simp, _, 3, rfl, h1, by simp, by simp, by simp [maxLen]⟩
  have hBx : BB (w5.alloc (.cells #[.int .u8 1, .int .u8 2, .int .u8 3] 5)) (.slice A6 3 c6) [1, 2, 3] := hB5.below (by (repeat' (first | (with_reducible exact Below.refl _ _) | (with_reducible assumption) | (with_reducible refine Below.alloc ?_ ?_ _) | (with_reducible refine below_setRow ?_ ?_ _) | (with_reducible refine bl_drew ?_) | (with_reducible refine bl_drewN ?_ _) | (with_reducible refine Below.setCell ?_ ?_ _) | (with_reducible refine bl_then ?_ ?_ hb) | (with_reducible refine bl_then ?_ ?_ hb1) | (with_reducible refine bl_then ?_ ?_ hb2) | (with_reducible refine bl_then ?_ ?_ hb3) | (with_reducible refine bl_then ?_ ?_ hb4) | (with_reducible refine bl_then ?_ ?_ hb5) | (with_reducible refine bl_then ?_ ?_ hb6) | (with_reducible refine bl_then ?_ ?_ hb7) | (with_reducible refine bl_then ?_ ?_ hb8) | (with_reducible exact Nat.le_refl _) | omega | (simp only [World.size_alloc, World.size_setCell, World.size_drew, size_setRow]; omega) | (simp; omega) | (simp; done))))
  refine (same_bytes _ _ [1, 2, 3] [1, 2, 3] _ hBx hbn).mono ?_
  rintro e w6 ⟨rfl, rfl⟩
  clear hbn hBx hB5
  have hL6 : Below B w (w5.alloc (.cells #[.int .u8 1, .int .u8 2, .int .u8 3] 5)) := hL5.alloc (by omega) _
  go_wp2_with fail
  go_ret
  exact ⟨rfl, by (try rw [hB]); exact hL6⟩
theorem nil_any (id n : Int) (last : Bool) (v : Value) (w : World) : Calls Try.prog 4 #[partV id n last v] w fun e w' => e = .returned (.bool true) ∧ Below w.heap.size w w' := by
  have e1 : partV id n last v = .agg #[.int .u64 id, .int .i64 n, .bool last, v] := rfl
  obtain ⟨B, hB⟩ : ∃ B, w.heap.size = B := ⟨_, rfl⟩
  have hg : (w.alloc (.cells #[.int .u64 id, .int .i64 n, .bool last, v] 33)).heap[B]? = some (.cells #[.int .u64 id, .int .i64 n, .bool last, v] 33 (0, 0)) := by rw [← hB]; exact heap_alloc_last _ _
  rw [e1]
  clear e1
  go_enter Try.func4, Try.ntmps4
  go_wp2_with (with_reducible refine wpList_ldB (row := #[.int .u64 id, .int .i64 n, .bool last, v]) partInfo partRow rfl (.tmp 1) rfl rfl hg ?_)
  refine (take_nil id n last v _).mono ?_
  rintro e w1 ⟨rfl, hb⟩
  have hL1 : Below B w w1 := by rw [← hB]; exact bl_then (by (repeat' (first | (with_reducible exact Below.refl _ _) | (with_reducible assumption) | (with_reducible refine Below.alloc ?_ ?_ _) | (with_reducible refine below_setRow ?_ ?_ _) | (with_reducible refine bl_drew ?_) | (with_reducible refine bl_drewN ?_ _) | (with_reducible refine Below.setCell ?_ ?_ _) | (with_reducible refine bl_then ?_ ?_ hb) | (with_reducible refine bl_then ?_ ?_ hb1) | (with_reducible refine bl_then ?_ ?_ hb2) | (with_reducible refine bl_then ?_ ?_ hb3) | (with_reducible refine bl_then ?_ ?_ hb4) | (with_reducible refine bl_then ?_ ?_ hb5) | (with_reducible refine bl_then ?_ ?_ hb6) | (with_reducible refine bl_then ?_ ?_ hb7) | (with_reducible refine bl_then ?_ ?_ hb8) | (with_reducible exact Nat.le_refl _) | omega | (simp only [World.size_alloc, World.size_setCell, World.size_drew, size_setRow]; omega) | (simp; omega) | (simp; done)))) (by simp) hb
  have hsz : B ≤ w1.heap.size := hL1.size |> fun h => by omega
  clear hb hg
  go_wp2_with fail
  refine (holds_nil _).mono ?_
  rintro e w2 ⟨rfl, rfl⟩
  go_wp2_with fail
  refine (anchored_any _).mono ?_
  rintro e w3 ⟨rfl, hb⟩
  have hL3 := bl_then hL1 hsz hb
  clear hb
  go_wp2_with fail
  go_ret
  exact ⟨rfl, by (try rw [hB]); exact hL3⟩
end Go.Proofs.Ytnhhibdkojgnlaa
