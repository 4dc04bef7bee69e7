/- What is proved: what Sub of the reference answers when it is called; conditions: the argument is a byte. -/
import Derived.Test.YtppponobefljgaaAesR1
set_option linter.unusedSimpArgs false
set_option linter.unusedVariables false
namespace Go.Proofs.Ytppponobefljgaa
open Go.RowKit
set_option maxRecDepth 100000
set_option maxHeartbeats 8000000
def inv0 (b : Nat) : Nat := if b = 0 then 0 else inv b
theorem inv0_lt {b : Nat} (h : b < 256) : inv0 b < 256 := by
  unfold inv0
  by_cases h0 : b = 0
  · rw [if_pos h0]; omega
  · rw [if_neg h0]; exact (inv_mul b h h0).2
theorem inv_only {b i : Nat} (hb : b < 256) (h0 : b ≠ 0) (hi : i < 256) : mul b i = 1 ↔ i = inv b := by
  obtain ⟨h1, h2⟩ := inv_mul b hb h0
  constructor
  · intro h
    have h3 := mul_assoc (inv b) b i h2 hb hi
    rw [h1, h, mul_comm 1 i (by omega) hi, mul_one i hi, mul_one _ h2] at h3
    exact h3
  · rintro rfl
    rw [mul_comm b _ hb h2, h1]
def atR (i k : Nat) : Nat := if k = 0 then i else (i + 3 + k) % 8
def bitR (c i : Nat) : Nat → Nat
  | 0 => 99 / 2 ^ i % 2
  | k + 1 => bitR c i k ^^^ (c / 2 ^ atR i k % 2)
def sR (c : Nat) : Nat → Nat
  | 0 => 0
  | i + 1 => sR c i ||| (bitR c i 5 * 2 ^ i % 256)
theorem sR_succ (c i : Nat) : sR c (i + 1) = sR c i ||| (bitR c i 5 * 2 ^ i % 256) := by rw [sR]
theorem sR_step {c j s p : Nat} (h1 : s = sR c j) (h2 : p = bitR c j 5) : s ||| (p * 2 ^ j % 256) = sR c (j + 1) := by
  subst h1; subst h2
  exact (sR_succ c j).symm
theorem sR_all : ∀ b, b < 256 → sR (inv0 b) 8 = subT b := by decide +kernel
theorem bitR_lt (c i : Nat) : ∀ k, bitR c i k < 2
  | 0 => by unfold bitR; omega
  | k + 1 => by unfold bitR; exact Nat.xor_lt_two_pow (n := 1) (bitR_lt c i k) (by omega)
theorem and1i (b : Nat) (h : b < 256) : bits .and .i64 (b : Int) 1 = ((b % 2 : Nat) : Int) := by
  have key : ∀ m : Fin 256, bits .and .i64 (m.val : Int) 1 = ((m.val % 2 : Nat) : Int) := by decide +kernel
  exact key ⟨b, h⟩
theorem xor1i (p q : Nat) (hp : p < 2) (hq : q < 2) : bits .xor .i64 (p : Int) (q : Int) = ((p ^^^ q : Nat) : Int) := by
  have key : ∀ p : Fin 2, ∀ q : Fin 2, bits .xor .i64 (p.val : Int) (q.val : Int) = ((p.val ^^^ q.val : Nat) : Int) := by decide +kernel
  exact key ⟨p, hp⟩ ⟨q, hq⟩
theorem shl_bit (p j : Nat) (hp : p < 2) (hj : j < 8) : wrap64 ((p : Int) * 2 ^ j) % 256 = ((p * 2 ^ j % 256 : Nat) : Int) := by
  have key : ∀ p : Fin 2, ∀ j : Fin 8, wrap64 ((p.val : Int) * 2 ^ j.val) % 256 = ((p.val * 2 ^ j.val % 256 : Nat) : Int) := by decide +kernel
  exact key ⟨p, hp⟩ ⟨j, hj⟩
theorem rsub_any (b : Nat) (w : World) (hb : b < 256) : Calls Try.prog 11 #[.int .u8 b] w fun e w' => e = .returned (.int .u8 (subI b)) ∧ w' = w := by
  have HR := Lib.hid (sR_all b hb)
  have HC := Lib.hid (inv0_lt hb)
  go_enter Try.func11, Try.ntmps11
  go_wp2_with fail
  go_loop [3, 4] (fun x i => ∃ k c : Nat, 1 ≤ k ∧ k ≤ 256 ∧ x = .int .u8 c ∧ i = .int .i64 k ∧ Hid (c = if b ≠ 0 ∧ inv b < k then inv b else 0)) (fun _ i => 256 - (intOf i).toNat)
  case atStart => exact ⟨1, 0, by omega, by omega, rfl, rfl, Lib.hid (by
    by_cases h0 : b ≠ 0 ∧ inv b < 1
    · rw [if_pos h0]; omega
    · rw [if_neg h0])⟩
  case round =>
    obtain ⟨k, c, hk1, hk, rfl, rfl, HX⟩ := hrel
    by_cases hgo : k < 256 ∧ b ≠ 0
    · have hki : (k : Int) < 256 := by omega
      have hk0 : (0 : Int) ≤ (k : Int) := by omega
      have hbi : ((b : Int) == 0) = false := by simp; omega
      have hw : IntKind.u8.wrap (k : Int) = (k : Int) := by rw [IntKind.wrap_u8']; omega
      have hT := Lib.hid (fun w => rtimes_any b k w hb hgo.1)
      go_wp2_with fail
      refine (hT.out _).mono ?_
      rintro e w' ⟨rfl, rfl⟩
      by_cases h1 : k = inv b
      · have hm1 : mul b k = 1 := (inv_only hb hgo.2 hgo.1).2 h1
        rw [hm1]
        have HN : Hid (k = if b ≠ 0 ∧ inv b < k + 1 then inv b else 0) := Lib.hid (by rw [if_pos ⟨hgo.2, by omega⟩]; exact h1)
        clear hm1 h1 HX
        go_wp2_with fail
        go_round
        case rel => exact ⟨k + 1, k, by omega, by omega, rfl, by go_num, HN⟩
        case measure => first | (simp [intOf]; done) | (simp [intOf]; omega)
      · have hm1 : mul b k ≠ 1 := fun h => h1 ((inv_only hb hgo.2 hgo.1).1 h)
        obtain ⟨y, hy⟩ : ∃ y, mul b k = y := ⟨_, rfl⟩
        rw [hy] at hm1
        rw [hy]
        have hyi : ((y : Int) == 1) = false := by simp; omega
        have HN : Hid (c = if b ≠ 0 ∧ inv b < k + 1 then inv b else 0) := Lib.hid (by
          rw [HX.out]
          by_cases h2 : b ≠ 0 ∧ inv b < k
          · rw [if_pos h2, if_pos ⟨h2.1, by omega⟩]
          · rw [if_neg h2, if_neg (fun h => h2 ⟨h.1, by have := h.2; omega⟩)])
        clear hm1 h1 HX hy hT
        go_wp2_with fail
        go_round
        case rel => exact ⟨k + 1, c, by omega, by omega, rfl, by go_num, HN⟩
        case measure => first | (simp [intOf]; done) | (simp [intOf]; omega)
    · have HE : Hid (c = inv0 b) := Lib.hid (by
        rw [HX.out]
        unfold inv0
        by_cases h0 : b = 0
        · rw [if_neg (by omega), if_pos h0]
        · have := (inv_mul b hb h0).2
          rw [if_pos (by omega), if_neg h0])
      have hcl : c < 256 := by rw [HE.out]; exact HC.out
      have HS : Hid (sR c 8 = subT b) := Lib.hid (by rw [HE.out]; exact HR.out)
      clear HX HE HC HR
      rcases (by omega : ¬ k < 256 ∨ (k < 256 ∧ b = 0)) with h | h
      · have hki : ¬ (k : Int) < 256 := by omega
        clear h hgo
        go_wp2_with fail
        go_loop [5, 6] (fun x i => ∃ j s : Nat, j ≤ 8 ∧ x = .int .u8 s ∧ i = .int .i64 j ∧ s < 256 ∧ Hid (s = sR c j)) (fun _ i => 8 - (intOf i).toNat)
        case atStart => exact ⟨0, 0, by omega, rfl, rfl, by omega, Lib.hid rfl⟩
        case round =>
          obtain ⟨j, s, hj, rfl, rfl, hs, HJ⟩ := hrel
          by_cases hj8 : j < 8
          · have hji : (j : Int) < 8 := by omega
            have hj0 : (0 : Int) ≤ (j : Int) := by omega
            obtain ⟨q, hq⟩ : ∃ q, 99 / 2 ^ j = q := ⟨_, rfl⟩
            have hql : q < 256 := by rw [← hq]; exact Nat.lt_of_le_of_lt (Nat.div_le_self _ _) (by omega)
            have hqa := and1i q hql
            have hsh : (99 : Int) / 2 ^ j = (q : Int) := by rw [← hq]; simp
            have HQ : Hid (q % 2 = bitR c j 0) := Lib.hid (by rw [← hq]; rfl)
            clear hq
            go_wp2_with fail
            go_loop [7, 8] (fun x i => ∃ n p : Nat, n ≤ 5 ∧ x = .int .i64 p ∧ i = .int .i64 n ∧ p < 2 ∧ Hid (p = bitR c j n)) (fun _ i => 5 - (intOf i).toNat)
            case atStart => exact ⟨0, q % 2, by omega, by go_num, rfl, by omega, HQ⟩
            case round =>
              obtain ⟨n, p, hn, rfl, rfl, hp, HP⟩ := hrel
              by_cases hn5 : n < 5
              · have hni : (n : Int) < 5 := by omega
                have hn0 : (0 : Int) ≤ (n : Int) := by omega
                obtain ⟨x, hx⟩ : ∃ x, c / 2 ^ atR j n = x := ⟨_, rfl⟩
                have hxl : x < 256 := by rw [← hx]; exact Nat.lt_of_le_of_lt (Nat.div_le_self _ _) hcl
                have hxa := and1i x hxl
                obtain ⟨y, hy⟩ : ∃ y, x % 2 = y := ⟨_, rfl⟩
                have hyl : y < 2 := by omega
                rw [hy] at hxa
                have hxx := xor1i p y hp hyl
                have hpl := Nat.xor_lt_two_pow (n := 1) (x := p) (y := y) (by omega) (by omega)
                have HN : Hid (p ^^^ y = bitR c j (n + 1)) := Lib.hid (by rw [HP.out, ← hy, ← hx]; rfl)
                rcases Nat.eq_zero_or_pos n with h0 | h0
                · subst h0
                  have hxs : (c : Int) / 2 ^ j = (x : Int) := by rw [← hx]; unfold atR; simp
                  clear hx HP hy
                  generalize p ^^^ y = p2 at *
                  go_wp2_with fail
                  go_round
                  case rel => exact ⟨0 + 1, p2, by omega, by go_num, by go_num, hpl, HN⟩
                  case measure => first | (simp [intOf]; done) | (simp [intOf]; omega)
                · obtain ⟨t, ht⟩ : ∃ t, (j + 3 + n) % 8 = t := ⟨_, rfl⟩
                  have htl : t < 8 := by omega
                  have hxs : (c : Int) / 2 ^ t = (x : Int) := by rw [← hx, ← ht]; unfold atR; rw [if_neg (by omega)]; simp
                  have hni0 : (0 : Int) < (n : Int) := by omega
                  have hw1 : IntKind.i64.wrap ((j : Int) + 3) = (j : Int) + 3 := IntWalk.i64_in _ (by omega)
                  have hw2 : IntKind.i64.wrap ((j : Int) + 3 + (n : Int)) = (j : Int) + 3 + (n : Int) := IntWalk.i64_in _ (by omega)
                  have hrm : ((j : Int) + 3 + (n : Int)).tmod 8 = (t : Int) := by rw [Int.tmod_eq_emod_of_nonneg (by omega)]; omega
                  have HT := Lib.hid ht
                  clear hx HP ht hy
                  generalize p ^^^ y = p2 at *
                  go_wp2_with fail
                  go_round
                  case rel => exact ⟨n + 1, p2, by omega, by go_num, by go_num, hpl, HN⟩
                  case measure => first | (simp [intOf]; done) | (simp [intOf]; omega)
              · obtain rfl : n = 5 := by omega
                have hor := u8_or_nat s (p * 2 ^ j % 256) hs (Nat.mod_lt _ (by decide))
                have hsl := shl_bit p j hp hj8
                have hol : s ||| (p * 2 ^ j % 256) < 256 := Nat.or_lt_two_pow (n := 8) hs (Nat.mod_lt _ (by decide))
                have HN : Hid (s ||| (p * 2 ^ j % 256) = sR c (j + 1)) := Lib.hid (sR_step HJ.out HP.out)
                generalize p * 2 ^ j % 256 = y at *
                generalize s ||| y = s2 at *
                clear HJ HP
                go_wp2_with fail
                go_round
                case rel => exact ⟨j + 1, s2, by omega, by go_num, by go_num, hol, HN⟩
                case measure => first | (simp [intOf]; done) | (simp [intOf]; omega)
          · obtain rfl : j = 8 := by omega
            have HE : Hid (s = subT b) := Lib.hid (by rw [HJ.out, HS.out])
            go_wp2_with fail
            go_ret
            rw [HE.out]
            exact ⟨rfl, rfl⟩
      · obtain ⟨h1, h0⟩ := h
        have hki : (k : Int) < 256 := by omega
        have hbi : ((b : Int) == 0) = true := by rw [h0]; rfl
        clear h1 h0 hgo
        go_wp2_with fail
        go_loop [5, 6] (fun x i => ∃ j s : Nat, j ≤ 8 ∧ x = .int .u8 s ∧ i = .int .i64 j ∧ s < 256 ∧ Hid (s = sR c j)) (fun _ i => 8 - (intOf i).toNat)
        case atStart => exact ⟨0, 0, by omega, rfl, rfl, by omega, Lib.hid rfl⟩
        case round =>
          obtain ⟨j, s, hj, rfl, rfl, hs, HJ⟩ := hrel
          by_cases hj8 : j < 8
          · have hji : (j : Int) < 8 := by omega
            have hj0 : (0 : Int) ≤ (j : Int) := by omega
            obtain ⟨q, hq⟩ : ∃ q, 99 / 2 ^ j = q := ⟨_, rfl⟩
            have hql : q < 256 := by rw [← hq]; exact Nat.lt_of_le_of_lt (Nat.div_le_self _ _) (by omega)
            have hqa := and1i q hql
            have hsh : (99 : Int) / 2 ^ j = (q : Int) := by rw [← hq]; simp
            have HQ : Hid (q % 2 = bitR c j 0) := Lib.hid (by rw [← hq]; rfl)
            clear hq
            go_wp2_with fail
            go_loop [7, 8] (fun x i => ∃ n p : Nat, n ≤ 5 ∧ x = .int .i64 p ∧ i = .int .i64 n ∧ p < 2 ∧ Hid (p = bitR c j n)) (fun _ i => 5 - (intOf i).toNat)
            case atStart => exact ⟨0, q % 2, by omega, by go_num, rfl, by omega, HQ⟩
            case round =>
              obtain ⟨n, p, hn, rfl, rfl, hp, HP⟩ := hrel
              by_cases hn5 : n < 5
              · have hni : (n : Int) < 5 := by omega
                have hn0 : (0 : Int) ≤ (n : Int) := by omega
                obtain ⟨x, hx⟩ : ∃ x, c / 2 ^ atR j n = x := ⟨_, rfl⟩
                have hxl : x < 256 := by rw [← hx]; exact Nat.lt_of_le_of_lt (Nat.div_le_self _ _) hcl
                have hxa := and1i x hxl
                obtain ⟨y, hy⟩ : ∃ y, x % 2 = y := ⟨_, rfl⟩
                have hyl : y < 2 := by omega
                rw [hy] at hxa
                have hxx := xor1i p y hp hyl
                have hpl := Nat.xor_lt_two_pow (n := 1) (x := p) (y := y) (by omega) (by omega)
                have HN : Hid (p ^^^ y = bitR c j (n + 1)) := Lib.hid (by rw [HP.out, ← hy, ← hx]; rfl)
                rcases Nat.eq_zero_or_pos n with h0 | h0
                · subst h0
                  have hxs : (c : Int) / 2 ^ j = (x : Int) := by rw [← hx]; unfold atR; simp
                  clear hx HP hy
                  generalize p ^^^ y = p2 at *
                  go_wp2_with fail
                  go_round
                  case rel => exact ⟨0 + 1, p2, by omega, by go_num, by go_num, hpl, HN⟩
                  case measure => first | (simp [intOf]; done) | (simp [intOf]; omega)
                · obtain ⟨t, ht⟩ : ∃ t, (j + 3 + n) % 8 = t := ⟨_, rfl⟩
                  have htl : t < 8 := by omega
                  have hxs : (c : Int) / 2 ^ t = (x : Int) := by rw [← hx, ← ht]; unfold atR; rw [if_neg (by omega)]; simp
                  have hni0 : (0 : Int) < (n : Int) := by omega
                  have hw1 : IntKind.i64.wrap ((j : Int) + 3) = (j : Int) + 3 := IntWalk.i64_in _ (by omega)
                  have hw2 : IntKind.i64.wrap ((j : Int) + 3 + (n : Int)) = (j : Int) + 3 + (n : Int) := IntWalk.i64_in _ (by omega)
                  have hrm : ((j : Int) + 3 + (n : Int)).tmod 8 = (t : Int) := by rw [Int.tmod_eq_emod_of_nonneg (by omega)]; omega
                  have HT := Lib.hid ht
                  clear hx HP ht hy
                  generalize p ^^^ y = p2 at *
                  go_wp2_with fail
                  go_round
                  case rel => exact ⟨n + 1, p2, by omega, by go_num, by go_num, hpl, HN⟩
                  case measure => first | (simp [intOf]; done) | (simp [intOf]; omega)
              · obtain rfl : n = 5 := by omega
                have hor := u8_or_nat s (p * 2 ^ j % 256) hs (Nat.mod_lt _ (by decide))
                have hsl := shl_bit p j hp hj8
                have hol : s ||| (p * 2 ^ j % 256) < 256 := Nat.or_lt_two_pow (n := 8) hs (Nat.mod_lt _ (by decide))
                have HN : Hid (s ||| (p * 2 ^ j % 256) = sR c (j + 1)) := Lib.hid (sR_step HJ.out HP.out)
                generalize p * 2 ^ j % 256 = y at *
                generalize s ||| y = s2 at *
                clear HJ HP
                go_wp2_with fail
                go_round
                case rel => exact ⟨j + 1, s2, by omega, by go_num, by go_num, hol, HN⟩
                case measure => first | (simp [intOf]; done) | (simp [intOf]; omega)
          · obtain rfl : j = 8 := by omega
            have HE : Hid (s = subT b) := Lib.hid (by rw [HJ.out, HS.out])
            go_wp2_with fail
            go_ret
            rw [HE.out]
            exact ⟨rfl, rfl⟩
end Go.Proofs.Ytppponobefljgaa
