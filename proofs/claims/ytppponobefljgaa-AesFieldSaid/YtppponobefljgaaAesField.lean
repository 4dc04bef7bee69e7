/- What is proved: the law AesField answers true when it is called; conditions: the arguments are bytes. -/
import Derived.Test.YtppponobefljgaaAesB
import Derived.Test.YtppponobefljgaaAesP
set_option linter.unusedSimpArgs false
set_option linter.unusedVariables false
namespace Go.Proofs.Ytppponobefljgaa
open Go.RowKit
set_option maxRecDepth 100000
set_option maxHeartbeats 8000000
theorem field_any (a b c : Nat) (ha : a < 256) (hb : b < 256) (hc : c < 256) (w : World) : Calls Try.prog 3 #[.int .u8 a, .int .u8 b, .int .u8 c] w fun e w' => e = .returned (.bool true) ∧ Below w.heap.size w w' := by
  have HX : Hid (∀ (x y : Nat), x < 256 → y < 256 → bits .xor .u8 (x : Int) (y : Int) = ((x ^^^ y : Nat) : Int) ∧ x ^^^ y < 256) := Lib.hid (fun x y hx hy => ⟨u8_xor_nat x y hx hy, Nat.xor_lt_two_pow (n := 8) hx hy⟩)
  obtain ⟨p, hp⟩ : ∃ p, mul a b = p := ⟨_, rfl⟩
  have hpl : p < 256 := by rw [← hp]; exact mul_lt a b ha
  obtain ⟨q, hq⟩ : ∃ q, mul b c = q := ⟨_, rfl⟩
  have hql : q < 256 := by rw [← hq]; exact mul_lt b c hb
  obtain ⟨t, ht⟩ : ∃ t, mul a c = t := ⟨_, rfl⟩
  have htl : t < 256 := by rw [← ht]; exact mul_lt a c ha
  obtain ⟨s, hs⟩ : ∃ s, mul p c = s := ⟨_, rfl⟩
  obtain ⟨u, hu⟩ : ∃ u, b ^^^ c = u := ⟨_, rfl⟩
  have hbc := (HX.out b c hb hc).1
  have hul := (HX.out b c hb hc).2
  rw [hu] at hbc hul
  obtain ⟨v, hv⟩ : ∃ v, p ^^^ t = v := ⟨_, rfl⟩
  have hpt := (HX.out p t hpl htl).1
  rw [hv] at hpt
  have T1 : Hid (mul a b = p) := Lib.hid hp
  have T2 : Hid (mul b a = p) := Lib.hid ((mul_comm b a hb ha).trans hp)
  have T3 : Hid (mul p c = s) := Lib.hid hs
  have T4 : Hid (mul b c = q) := Lib.hid hq
  have T5 : Hid (mul a q = s) := Lib.hid (by rw [← hs, ← hp, ← hq, mul_assoc a b c ha hb hc])
  have T6 : Hid (mul a u = v) := Lib.hid (by rw [← hu, mul_right, hp, ht, hv])
  have T7 : Hid (mul a c = t) := Lib.hid ht
  have T8 : Hid (mul a 1 = a) := Lib.hid (mul_one a ha)
  have T9 : Hid (p = 0 ↔ a = 0 ∨ b = 0) := Lib.hid (by rw [← hp]; exact mul_zero_iff a b ha hb)
  clear hp hq ht hs hu hv
  go_enter Try.func3, Try.ntmps3
  go_wp2_with fail
  refine (times_any a b _ ha hb).mono ?_
  rintro e w1 ⟨rfl, rfl⟩
  rw [T1.out]
  go_wp2_with fail
  refine (times_any b a _ hb ha).mono ?_
  rintro e w1 ⟨rfl, rfl⟩
  rw [T2.out]
  go_wp2_with fail
  refine (times_any a b _ ha hb).mono ?_
  rintro e w1 ⟨rfl, rfl⟩
  rw [T1.out]
  go_wp2_with fail
  refine (times_any p c _ hpl hc).mono ?_
  rintro e w1 ⟨rfl, rfl⟩
  rw [T3.out]
  go_wp2_with fail
  refine (times_any b c _ hb hc).mono ?_
  rintro e w1 ⟨rfl, rfl⟩
  rw [T4.out]
  go_wp2_with fail
  refine (times_any a q _ ha hql).mono ?_
  rintro e w1 ⟨rfl, rfl⟩
  rw [T5.out]
  go_wp2_with fail
  refine (times_any a u _ ha hul).mono ?_
  rintro e w1 ⟨rfl, rfl⟩
  rw [T6.out]
  go_wp2_with fail
  refine (times_any a b _ ha hb).mono ?_
  rintro e w1 ⟨rfl, rfl⟩
  rw [T1.out]
  go_wp2_with fail
  refine (times_any a c _ ha hc).mono ?_
  rintro e w1 ⟨rfl, rfl⟩
  rw [T7.out]
  go_wp2_with fail
  refine (times_any a 1 _ ha (by omega)).mono ?_
  rintro e w1 ⟨rfl, rfl⟩
  rw [T8.out]
  go_wp2_with fail
  refine (anchored_any _).mono ?_
  rintro e w1 ⟨rfl, hb1⟩
  have HL := Lib.hid hb1
  clear hb1
  go_wp2_with fail
  refine (times_any a b _ ha hb).mono ?_
  rintro e w2 ⟨rfl, rfl⟩
  rw [T1.out]
  rcases Nat.eq_zero_or_pos a with h0 | h0
  · obtain rfl : p = 0 := T9.out.2 (.inl h0)
    subst h0
    clear T9
    go_wp2_with fail
    go_ret
    exact ⟨rfl, HL.out⟩
  · have h0i : ((a : Int) == 0) = false := by simp; omega
    rcases Nat.eq_zero_or_pos b with h1 | h1
    · obtain rfl : p = 0 := T9.out.2 (.inr h1)
      subst h1
      clear T9
      go_wp2_with fail
      go_ret
      exact ⟨rfl, HL.out⟩
    · have h1i : ((b : Int) == 0) = false := by simp; omega
      have h2i : ((p : Int) == 0) = false := by
        rw [beq_eq_false_iff_ne]
        intro h
        rcases T9.out.1 (by omega) with h | h <;> omega
      clear T9
      go_wp2_with fail
      go_ret
      exact ⟨rfl, HL.out⟩
theorem field_law (a b c : Int) (ha : 0 ≤ a ∧ a ≤ 255) (hb : 0 ≤ b ∧ b ≤ 255) (hc : 0 ≤ c ∧ c ≤ 255) (w : World) : Calls Try.prog 3 #[.int .u8 a, .int .u8 b, .int .u8 c] w fun e w' => e = .returned (.bool true) ∧ Below w.heap.size w w' := by
  have h := field_any a.toNat b.toNat c.toNat (by omega) (by omega) (by omega) w
  rwa [Int.toNat_of_nonneg ha.1, Int.toNat_of_nonneg hb.1, Int.toNat_of_nonneg hc.1] at h
end Go.Proofs.Ytppponobefljgaa
