/- What is proved: what next of package utf answers when it is called, and whether a rune may be; conditions: the slice reads as it is said to, and is not empty. -/
import Derived.Test.YtghadceeckbgpaaUtf3
set_option linter.unusedSimpArgs false
set_option linter.unusedVariables false
namespace Go.Proofs.Ytghadceeckbgpaa
open Go.RowKit
set_option maxRecDepth 100000
set_option maxHeartbeats 4000000
/-- The first character, and how many bytes it takes; e: is this the end? -/
def nextS (bs : List Int) (e : Bool) : Int × Nat :=
  if (begS bs).1 = (begS bs).2 ∧ 0 < (begS bs).1 then (charS (bs.take (begS bs).1), (begS bs).1) else if (begS bs).1 = bs.length ∧ e = false then (0, 0) else (65533, max (begS bs).1 1)
theorem nextS_b (bs : List Int) (e : Bool) (h : 0 < bs.length) : (nextS bs e).2 ≤ bs.length ∧ (e = true → 0 < (nextS bs e).2) := by
  obtain ⟨h1, h2, h3, h4⟩ := begS_b bs h
  unfold nextS
  split
  · exact ⟨h1, fun _ => by simp; omega⟩
  · split
    · rename_i h5
      exact ⟨by simp, fun h6 => by rw [h6] at h5; simp at h5⟩
    · exact ⟨by simp; omega, fun _ => by simp; omega⟩
theorem BB.cut {w : World} {A : Option Addr} {n cap j : Nat} {xs : List Int} (h : BB w (.slice A n cap) xs) (hj : j ≤ xs.length) : BB w (.slice A j cap) (xs.take j) := by
  obtain ⟨h1, h2, A', cap', e, hr, h3, h4, h5⟩ := h
  simp only [Value.slice.injEq] at e
  obtain ⟨rfl, rfl, rfl⟩ := e
  have hl : (xs.take j).length = j := by rw [List.length_take]; omega
  exact ⟨h1.take j, by omega, A, cap, by rw [hl], by rw [hl]; exact hr.take hj, h3, by omega, h5⟩
theorem charS_b (bs : List Int) (hok : okB bs) (h4 : bs.length ≤ 4) : 0 ≤ charS bs ∧ charS bs ≤ 2147483647 := by
  rcases (by omega : bs.length = 0 ∨ 0 < bs.length) with h | h
  · obtain rfl := List.eq_nil_of_length_eq_zero h
    decide
  have h0 : 0 ≤ chH bs ∧ chH bs ≤ 255 := by
    have hb := hok.getD 0
    unfold chH
    split
    · exact hb
    · have h2 : 0 < 2 ^ (7 - bs.length) := Nat.pow_pos (by omega)
      have h3 := Int.emod_nonneg (bs.getD 0 0) (b := ((2 ^ (7 - bs.length) : Nat) : Int)) (by omega)
      have h4 := Int.emod_lt_of_pos (bs.getD 0 0) (b := ((2 ^ (7 - bs.length) : Nat) : Int)) (by omega)
      have h5 : 2 ^ (7 - bs.length) ≤ 2 ^ 7 := Nat.pow_le_pow_right (by omega) (by omega)
      omega
  have h1 := chF_lt h0.1 (bs.drop 1)
  have h2 : (64 : Int) ^ (bs.drop 1).length ≤ 262144 := by
    have h : 64 ^ (bs.drop 1).length ≤ 64 ^ 3 := Nat.pow_le_pow_right (by omega) (by simp; omega)
    have h2 : ((64 ^ (bs.drop 1).length : Nat) : Int) ≤ 262144 := by omega
    simpa using h2
  have h3 : (chH bs + 1) * 64 ^ (bs.drop 1).length ≤ 256 * 262144 := Int.mul_le_mul (by omega) h2 (Int.pow_nonneg (by omega)) (by omega)
  unfold charS
  omega
theorem next_any (v : Value) (bs : List Int) (e : Bool) (w : World) (h : BB w v bs) (hp : 0 < bs.length) :
    Calls Try.prog 23 #[v, .bool e] w fun en w' => en = .returned (.tuple #[.int .i32 (nextS bs e).1, .int .i64 (nextS bs e).2]) ∧ Below w.heap.size w w' := by
  have HBg := Lib.hid (begun_any v bs w h hp)
  obtain ⟨q1, q2, q3, q4⟩ := begS_b bs hp
  have HH := Lib.hid h
  have HS : Hid (nextS bs e = if (begS bs).1 = (begS bs).2 ∧ 0 < (begS bs).1 then (charS (bs.take (begS bs).1), (begS bs).1) else if (begS bs).1 = bs.length ∧ e = false then (0, 0) else (65533, max (begS bs).1 1)) := Lib.hid rfl
  obtain ⟨A, cap, rfl, hnc, hlc, hcm⟩ : ∃ A cap, v = .slice A bs.length cap ∧ (A = none → cap = 0) ∧ bs.length ≤ cap ∧ cap ≤ maxLen := by
    obtain ⟨_, _, A, cap, e1, _, e2⟩ := h
    exact ⟨A, cap, e1, e2⟩
  have hlen := h.len
  clear h
  generalize begS bs = p at *
  obtain ⟨n, sz⟩ := p
  simp only at *
  go_enter Try.func23, Try.ntmps23
  go_wp2_with fail
  refine HBg.out.mono ?_
  rintro en w1 ⟨rfl, hb⟩
  have HB := Lib.hid hb
  have HC := fun j (hj : j ≤ bs.length) => Lib.hid ((BB.cut HH.out hj).below hb)
  clear hb HBg
  by_cases h1 : n = sz ∧ 0 < n
  · have HS2 := Lib.hid (HS.out.trans (if_pos h1))
    obtain ⟨rfl, h0⟩ := h1
    have HCn := HC n q1
    clear HC HS q4 q2
    have hch := charS_b (bs.take n) HCn.out.ok (by simp; omega)
    have hnc2 : (n : Int) ≤ (cap : Int) := by omega
    go_wp2_with fail
    refine (character_any _ _ w1 HCn.out (by simp; omega) (by simp; omega)).mono ?_
    rintro en w2 ⟨rfl, hb2⟩
    have HB2 := Lib.hid (bl_then HB.out HB.out.size hb2)
    clear hb2
    generalize charS (bs.take n) = c at *
    go_wp2_with fail
    refine bodyPost_ret (v := .tuple #[.int .i32 c, .int .i64 n]) (by simp [results, Try.results23, go_sem]) rfl ?_
    rw [HS2.out]
    exact ⟨rfl, HB2.out⟩
  · have HS2 := Lib.hid (HS.out.trans (if_neg h1))
    clear HS HC
    rcases (by omega : (n = sz ∧ n = 0) ∨ n ≠ sz) with ⟨rfl, rfl⟩ | h5
    · have HS3 := Lib.hid (HS2.out.trans (if_neg (by omega)))
      clear HS2 h1
      have h6 : ¬ ((0 : Int) = (bs.length : Int)) := by omega
      go_wp2_with fail
      refine bodyPost_ret (v := .tuple #[.int .i32 65533, .int .i64 1]) (by simp [results, Try.results23, go_sem]) rfl ?_
      rw [HS3.out]
      exact ⟨rfl, HB.out⟩
    · have h7 : ¬ ((n : Int) = (sz : Int)) := by omega
      by_cases h6 : n = bs.length
      · subst h6
        cases e
        · have HS3 := Lib.hid (HS2.out.trans (if_pos ⟨rfl, rfl⟩))
          clear HS2 h1
          go_wp2_with fail
          refine bodyPost_ret (v := .tuple #[.int .i32 0, .int .i64 0]) (by simp [results, Try.results23, go_sem]) rfl ?_
          rw [HS3.out]
          exact ⟨rfl, HB.out⟩
        · have HS3 := Lib.hid (HS2.out.trans ((if_neg (by simp)).trans (by rw [show max bs.length 1 = bs.length by omega])))
          clear HS2 h1
          go_wp2_with fail
          refine bodyPost_ret (v := .tuple #[.int .i32 65533, .int .i64 bs.length]) (by simp [results, Try.results23, go_sem]) rfl ?_
          rw [HS3.out]
          exact ⟨rfl, HB.out⟩
      · have HS3 := Lib.hid (HS2.out.trans ((if_neg (by simp [h6])).trans (by rw [show max n 1 = n by omega])))
        have h8 : ¬ ((n : Int) = (bs.length : Int)) := by omega
        clear HS2 h1 h6
        go_wp2_with fail
        refine bodyPost_ret (v := .tuple #[.int .i32 65533, .int .i64 n]) (by simp [results, Try.results23, go_sem]) rfl ?_
        rw [HS3.out]
        exact ⟨rfl, HB.out⟩
end Go.Proofs.Ytghadceeckbgpaa
