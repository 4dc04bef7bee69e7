/- What is proved: what the methods of a network do when they are called; conditions: the network is there as it is said to be. -/
import Derived.Test.YthebhbcfacoknaaNet
set_option linter.unusedSimpArgs false
set_option linter.unusedVariables false
namespace Go.Proofs.Ythebhbcfacoknaa
open Go.RowKit
open Go.Maps (Keyed)
set_option maxRecDepth 100000
set_option maxHeartbeats 1000000
def sideNo (sd : Int) : Int := if sd = 1 then 0 else if sd = 2 then 1 else -1
theorem map_eq (M : Nat) (w : World) : (binOp .eql 54 (.map (some M)) (.map none)).run Try.prog w = .ok (.bool false) w := by kernel_rfl
theorem map_gd (M : Nat) (x y : Operand) (w : World) : (eqGuard .eql 54 x y (.map (some M)) (.map none)).run Try.prog w = .ok () w := by kernel_rfl
theorem ptr_eq (a : Addr) (w : World) : (binOp .eql 23 (.pointer (some a)) (.pointer none)).run Try.prog w = .ok (.bool false) w := by kernel_rfl
theorem ptr_gd (a : Addr) (x y : Operand) (w : World) : (eqGuard .eql 23 x y (.pointer (some a)) (.pointer none)).run Try.prog w = .ok () w := by kernel_rfl
theorem side_at (N : Nat) (sd : Int) (M : Nat) (w : World) (hs : 0 ≤ sd ∧ sd ≤ 255) (c4 : w.cell? ⟨N, 4, none⟩ = some (.map (some M))) :
    Calls Try.prog 19 #[.pointer (some ⟨N, 0, none⟩), .int .u8 sd] w fun e w' => e = .returned (.int .i64 (sideNo sd)) ∧ w = w' := by
  have q1 := map_eq M
  have q2 := map_gd M
  by_cases h1 : sd = 1
  · subst h1
    go_enter Try.func19, Try.ntmps19
    go_wp2_with fail
    go_ret
    exact ⟨rfl, rfl⟩
  · by_cases h2 : sd = 2
    · subst h2
      go_enter Try.func19, Try.ntmps19
      go_wp2_with fail
      go_ret
      exact ⟨rfl, rfl⟩
    · go_enter Try.func19, Try.ntmps19
      go_wp2_with fail
      go_ret
      exact ⟨ret_int (by simp [sideNo, h1, h2]), rfl⟩
theorem side_nil (sd : Int) (w : World) : Calls Try.prog 19 #[.pointer none, .int .u8 sd] w fun e w' => e = .returned (.int .i64 (-1)) ∧ w = w' := by
  go_enter Try.func19, Try.ntmps19
  go_wp2_with fail
  go_ret
  exact ⟨rfl, rfl⟩
theorem Rows_.form {w : World} {lab : Nat → Nat} {tr ti : Nat} {v : Value} {L : List (List Int)} (h : Rows_ w lab tr ti v L) :
    ∃ A cap, v = .slice A L.length cap ∧ ∀ i, i < L.length → ∃ g u, A = some ⟨g, 0, none⟩ ∧ w.cell? ⟨g, i, none⟩ = some u ∧ BB w u (L.getD i []) := by
  obtain ⟨vs, h1, h2, h3, h4⟩ := h
  obtain ⟨hl, h | ⟨g, cap, cur, rfl, hg, hh, hc, hm, hs, ht⟩⟩ := h2
  · refine ⟨none, 0, ?_, fun i hi => by omega⟩
    rw [h.1, h.2]
  · refine ⟨_, cap, rfl, fun i hi => ⟨g, vs.getD i undef, rfl, ?_, (h4 i hi).1⟩⟩
    rw [cell_of_row w g i _ _ (0, 0) hh]
    have := congrArg (fun l => l[i]?) ht
    simp only [List.getElem?_take_of_lt (show i < L.length * 1 by omega), Array.getElem?_toList] at this
    rw [this, List.getD_eq_getElem?_getD, List.getElem?_eq_getElem (by omega)]
    rfl
def NS.half (s : NS) (sd : Int) : List (List Int) := if sd = 1 then s.l0 else if sd = 2 then s.l1 else []
def NS.next (s : NS) (sd : Int) : Nat := if sd = 1 then s.n0 else if sd = 2 then s.n1 else 0

theorem half_len {w : World} {lab : Nat → Nat} {tr ti : Nat} {v : Value} {L : List (List Int)} (h : Rows_ w lab tr ti v L) : L.length ≤ maxLen := by
  obtain ⟨vs, h1, h2, h3, h4⟩ := h
  obtain ⟨hl, h | ⟨g, cap, cur, rfl, hg, hh, hc, hm, hs, ht⟩⟩ := h2
  · rw [h.2]; simp [maxLen]
  · omega
def atPost (L : List (List Int)) (i : Int) (w : World) (e : Ending) (w' : World) : Prop :=
  (if 0 ≤ i ∧ i < (L.length : Int) then ∃ v, e = .returned (.tuple #[v, .bool true]) ∧ OwB w' w.heap.size v (L.getD i.toNat []) else e = .returned (.tuple #[.slice none 0 0, .bool false])) ∧ Below w.heap.size w w'
theorem at_any (lab : Nat → Nat) (N : Nat) (s : NS) (sd i : Int) (w : World) (h : Net w lab N s) (hs : 0 ≤ sd ∧ sd ≤ 255) :
    Calls Try.prog 12 #[.pointer (some ⟨N, 0, none⟩), .int .u8 sd, .int .i64 i] w (atPost (s.half sd) i w) := by
  have HN := Lib.hid h
  obtain ⟨v0, v1, M, _, _, hN, h4, h5, h6, h7, h8⟩ := h
  (have c0 : w.cell? ⟨N, 0, none⟩ = some v0 := (cell_of_row w N 0 _ _ (0, 0) hN).trans rfl; have c1 : w.cell? ⟨N, 1, none⟩ = some v1 := (cell_of_row w N 1 _ _ (0, 0) hN).trans rfl; have c2 : w.cell? ⟨N, 2, none⟩ = some (.int .i64 s.n0) := (cell_of_row w N 2 _ _ (0, 0) hN).trans rfl; have c3 : w.cell? ⟨N, 3, none⟩ = some (.int .i64 s.n1) := (cell_of_row w N 3 _ _ (0, 0) hN).trans rfl; have c4 : w.cell? ⟨N, 4, none⟩ = some (.map (some M)) := (cell_of_row w N 4 _ _ (0, 0) hN).trans rfl)
  obtain ⟨A0, p0, rfl, r0⟩ := h4.form
  obtain ⟨A1, p1, rfl, r1⟩ := h5.form
  have m0 := half_len h4
  have m1 := half_len h5
  unfold maxLen at m0 m1
  clear h4 h5 h6 hN
  by_cases h1 : sd = 1
  · subst h1
    have e1 : s.half 1 = s.l0 := rfl
    rw [e1]
    clear r1
    by_cases i0 : 0 ≤ i
    · by_cases i1 : i < (s.l0.length : Int)
      · obtain ⟨k, rfl⟩ := Int.eq_ofNat_of_zero_le i0
        obtain ⟨g, u, rfl, hc, hu⟩ := r0 k (by omega)
        have HU := Lib.hid hu
        clear hu r0
        go_enter Try.func12, Try.ntmps12
        go_wp2_with fail
        refine (side_at N 1 M w (by omega) c4).mono ?_
        rintro e w1 ⟨rfl, rfl⟩
        have e2 : sideNo 1 = 0 := rfl
        rw [e2]
        go_wp2_with fail
        refine (clone_bytes u _ w HU.out).mono ?_
        rintro e w1 ⟨⟨v, rfl, hv⟩, hb1⟩
        have HV := Lib.hid hv
        have HB := Lib.hid hb1
        clear hv hb1
        go_wp2_with fail
        go_ret2
        refine ⟨?_, HB.out⟩
        rw [if_pos (by omega)]
        exact ⟨_, rfl, HV.out⟩
      · go_enter Try.func12, Try.ntmps12
        go_wp2_with fail
        refine (side_at N 1 M w (by omega) c4).mono ?_
        rintro e w1 ⟨rfl, rfl⟩
        have e2 : sideNo 1 = 0 := rfl
        rw [e2]
        go_wp2_with fail
        go_ret2
        refine ⟨?_, Below.refl _ _⟩
        rw [if_neg (by omega)]
        rfl
    · go_enter Try.func12, Try.ntmps12
      go_wp2_with fail
      refine (side_at N 1 M w (by omega) c4).mono ?_
      rintro e w1 ⟨rfl, rfl⟩
      have e2 : sideNo 1 = 0 := rfl
      rw [e2]
      go_wp2_with fail
      go_ret2
      refine ⟨?_, Below.refl _ _⟩
      rw [if_neg (by omega)]
      rfl
  · by_cases h2 : sd = 2
    · subst h2
      have e1 : s.half 2 = s.l1 := rfl
      rw [e1]
      clear r0
      by_cases i0 : 0 ≤ i
      · by_cases i1 : i < (s.l1.length : Int)
        · obtain ⟨k, rfl⟩ := Int.eq_ofNat_of_zero_le i0
          obtain ⟨g, u, rfl, hc, hu⟩ := r1 k (by omega)
          have HU := Lib.hid hu
          clear hu r1
          go_enter Try.func12, Try.ntmps12
          go_wp2_with fail
          refine (side_at N 2 M w (by omega) c4).mono ?_
          rintro e w1 ⟨rfl, rfl⟩
          have e2 : sideNo 2 = 1 := rfl
          rw [e2]
          go_wp2_with fail
          refine (clone_bytes u _ w HU.out).mono ?_
          rintro e w1 ⟨⟨v, rfl, hv⟩, hb1⟩
          have HV := Lib.hid hv
          have HB := Lib.hid hb1
          clear hv hb1
          go_wp2_with fail
          go_ret2
          refine ⟨?_, HB.out⟩
          rw [if_pos (by omega)]
          exact ⟨_, rfl, HV.out⟩
        · go_enter Try.func12, Try.ntmps12
          go_wp2_with fail
          refine (side_at N 2 M w (by omega) c4).mono ?_
          rintro e w1 ⟨rfl, rfl⟩
          have e2 : sideNo 2 = 1 := rfl
          rw [e2]
          go_wp2_with fail
          go_ret2
          refine ⟨?_, Below.refl _ _⟩
          rw [if_neg (by omega)]
          rfl
      · go_enter Try.func12, Try.ntmps12
        go_wp2_with fail
        refine (side_at N 2 M w (by omega) c4).mono ?_
        rintro e w1 ⟨rfl, rfl⟩
        have e2 : sideNo 2 = 1 := rfl
        rw [e2]
        go_wp2_with fail
        go_ret2
        refine ⟨?_, Below.refl _ _⟩
        rw [if_neg (by omega)]
        rfl
    · have e1 : s.half sd = [] := by simp [NS.half, h1, h2]
      have e2 : sideNo sd = -1 := by simp [sideNo, h1, h2]
      rw [e1]
      go_enter Try.func12, Try.ntmps12
      go_wp2_with fail
      refine (side_at N sd M w hs c4).mono ?_
      rintro e w1 ⟨rfl, rfl⟩
      rw [e2]
      go_wp2_with fail
      go_ret2
      refine ⟨?_, Below.refl _ _⟩
      rw [if_neg (by simp <;> omega)]
      rfl
end Go.Proofs.Ythebhbcfacoknaa
