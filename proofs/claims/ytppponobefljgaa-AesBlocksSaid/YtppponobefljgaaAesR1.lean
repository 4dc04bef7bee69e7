/- What is proved: what Times of the reference answers when it is called; conditions: the arguments are bytes. -/
import Derived.Test.YtppponobefljgaaAesB
import Derived.Test.YtppponobefljgaaAesP
set_option linter.unusedSimpArgs false
set_option linter.unusedVariables false
namespace Go.Proofs.Ytppponobefljgaa
open Go.RowKit
set_option maxRecDepth 100000
set_option maxHeartbeats 8000000
theorem rtimes_any (a b : Nat) (w : World) (ha : a < 256) (hb : b < 256) : Calls Try.prog 9 #[.int .u8 a, .int .u8 b] w fun e w' => e = .returned (.int .u8 (mul a b : Nat)) ∧ w' = w := by
  obtain ⟨m, hm⟩ : ∃ m, mul a b = m := ⟨_, rfl⟩
  have HM := Lib.hid hm
  rw [hm]
  clear hm
  go_enter Try.func9, Try.ntmps9
  go_wp2_with fail
  go_loop [0, 5, 6] (fun x z i => ∃ k c p : Nat, k ≤ 8 ∧ x = .int .u8 c ∧ i = .int .i64 k ∧ z = .int .u8 p ∧ c < 256 ∧ p < 256 ∧ Hid (p ^^^ mulF (8 - k) c (b / 2 ^ k) = m)) (fun _ _ i => 8 - (intOf i).toNat)
  case atStart => exact ⟨0, a, 0, by omega, rfl, rfl, rfl, ha, by omega, Lib.hid (by rw [Nat.zero_xor, Nat.pow_zero, Nat.div_one]; exact HM.out)⟩
  case round =>
    obtain ⟨k, c, p, hk, rfl, rfl, rfl, hc, hp, HR⟩ := hrel
    by_cases hk8 : k < 8
    · have hki : (k : Int) < 8 := by omega
      have hk0 : (0 : Int) ≤ (k : Int) := by omega
      obtain ⟨d, hd⟩ : ∃ d, b / 2 ^ k = d := ⟨_, rfl⟩
      have hdl : d < 256 := by rw [← hd]; exact Nat.lt_of_le_of_lt (Nat.div_le_self _ _) hb
      have h1 := and1 d hdl
      have hsh : (b : Int) / 2 ^ k = (d : Int) := by rw [← hd]; simp
      have HXT : Hid (∀ z : Nat, z < 2 → (128 ≤ c ↔ z = 1) → bits .xor .u8 ((c : Int) * 2 % 256) ((z : Int) * 27) = ((x2 c : Nat) : Int)) := Lib.hid (fun z hz h => by
        unfold x2
        by_cases h2 : 128 ≤ c
        · obtain rfl : z = 1 := h.1 h2
          rw [if_pos h2]
          have := u8_xor_nat (c * 2 % 256) 27 (by omega) (by omega)
          simpa using this
        · obtain rfl : z = 0 := by
            rcases (by omega : z = 0 ∨ z = 1) with h3 | h3
            · exact h3
            · exact absurd (h.2 h3) h2
          rw [if_neg h2]
          have := u8_xor_nat (c * 2 % 256) 0 (by omega) (by omega)
          rw [Nat.xor_zero] at this
          have e : c * 2 % 256 = c * 2 := by omega
          rw [e] at this
          have e2 : (c : Int) * 2 % 256 = ((c * 2 : Nat) : Int) := by omega
          rw [e2]
          simpa using this)
      obtain ⟨z, hz⟩ : ∃ z, c / 128 = z := ⟨_, rfl⟩
      have hzl : z < 2 := by omega
      have hz1 : 128 ≤ c ↔ z = 1 := by constructor <;> intro h <;> omega
      have hx := HXT.out z hzl hz1
      have hzi : (c : Int) / 128 = (z : Int) := by omega
      have hxl := x2_lt hc
      have HZ := Lib.hid hz
      clear hz hz1
      rcases (by omega : d % 2 = 1 ∨ d % 2 = 0) with h2 | h2
      · have HR2 : Hid ((p ^^^ c) ^^^ mulF (8 - (k + 1)) (x2 c) (b / 2 ^ (k + 1)) = m) := Lib.hid (by
          rw [← HR.out, show 8 - k = 8 - (k + 1) + 1 by omega, hd, mulF_odd h2, Nat.xor_assoc, Nat.pow_succ, ← Nat.div_div_eq_div_mul, hd])
        have hpx := Nat.xor_lt_two_pow (n := 8) (x := p) (y := c) (by omega) (by omega)
        have hxx := u8_xor_nat p c hp hc
        rw [h2] at h1
        have HD := Lib.hid hd
        clear HR HXT hd h2
        generalize x2 c = c2 at *
        generalize p ^^^ c = p2 at *
        go_wp2_with fail
        go_round
        case rel => exact ⟨k + 1, c2, p2, by omega, rfl, by go_num, rfl, hxl, hpx, HR2⟩
        case measure => first | (simp [intOf]; done) | (simp [intOf]; omega)
      · have HR2 : Hid (p ^^^ mulF (8 - (k + 1)) (x2 c) (b / 2 ^ (k + 1)) = m) := Lib.hid (by
          rw [← HR.out, show 8 - k = 8 - (k + 1) + 1 by omega, hd, mulF_even h2, Nat.pow_succ, ← Nat.div_div_eq_div_mul, hd])
        rw [h2] at h1
        have HD := Lib.hid hd
        clear HR HXT hd h2
        generalize x2 c = c2 at *
        go_wp2_with fail
        go_round
        case rel => exact ⟨k + 1, c2, p, by omega, rfl, by go_num, rfl, hxl, hp, HR2⟩
        case measure => first | (simp [intOf]; done) | (simp [intOf]; omega)
    · obtain rfl : k = 8 := by omega
      have HE : Hid (p = m) := Lib.hid (by
        have h := HR.out
        rw [Nat.sub_self] at h
        unfold mulF at h
        rwa [Nat.xor_zero] at h)
      go_wp2_with fail
      go_ret
      rw [HE.out]
      exact ⟨rfl, rfl⟩
end Go.Proofs.Ytppponobefljgaa
