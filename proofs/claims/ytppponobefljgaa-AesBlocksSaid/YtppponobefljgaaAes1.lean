/- What is proved: what twice, Times, turned and place of package aes answer when they are called; conditions: the numbers are within their bounds. -/
import Derived.Test.YtppponobefljgaaBase
import Derived.Test.YtppponobefljgaaProg
import Derived.Laws.BitsAllLaws
set_option linter.unusedSimpArgs false
set_option linter.unusedVariables false
namespace Go.Proofs.Ytppponobefljgaa
open Go.RowKit
set_option maxRecDepth 100000
set_option maxHeartbeats 4000000
/-- A byte times x. -/
def x2 (b : Nat) : Nat := if 128 ≤ b then (b * 2 % 256) ^^^ 27 else b * 2
theorem x2_lt {b : Nat} (h : b < 256) : x2 b < 256 := by
  unfold x2
  split
  · exact Nat.xor_lt_two_pow (n := 8) (by omega) (by omega)
  · omega
/-- Products: bit by bit. -/
def mulF : Nat → Nat → Nat → Nat
  | 0, _, _ => 0
  | f + 1, a, b => (if b % 2 = 1 then a else 0) ^^^ mulF f (x2 a) (b / 2)
def mul (a b : Nat) : Nat := mulF 8 a b
theorem mulF_lt : ∀ (f a b : Nat), a < 256 → mulF f a b < 256
  | 0, _, _, _ => by unfold mulF; omega
  | f + 1, a, b, h => by
    unfold mulF
    exact Nat.xor_lt_two_pow (n := 8) (by split <;> omega) (mulF_lt f (x2 a) (b / 2) (x2_lt h))
theorem mulF_zero : ∀ (f a : Nat), mulF f a 0 = 0
  | 0, _ => rfl
  | f + 1, a => by
    unfold mulF
    rw [if_neg (by omega), mulF_zero f (x2 a)]
    rfl
theorem and128 (b : Nat) (h : b < 256) : bits .and .u8 (b : Int) 128 = if 128 ≤ b then 128 else 0 := by
  have key : ∀ m : Fin 256, bits .and .u8 (m.val : Int) 128 = if 128 ≤ m.val then 128 else 0 := by decide +kernel
  exact key ⟨b, h⟩
theorem twice_any (b : Nat) (w : World) (h : b < 256) : Calls Try.prog 20 #[.int .u8 b] w fun e w' => e = .returned (.int .u8 (x2 b : Nat)) ∧ w' = w := by
  have ha := and128 b h
  rcases Nat.lt_or_ge b 128 with h1 | h1
  · rw [if_neg (by omega)] at ha
    have hx : Hid (x2 b = b * 2) := Lib.hid (by unfold x2; rw [if_neg (by omega)])
    go_enter Try.func20, Try.ntmps20
    go_wp2_with fail
    go_ret
    rw [hx.out]
    exact ⟨ret_int (by omega), rfl⟩
  · rw [if_pos h1] at ha
    have hx : Hid (x2 b = (b * 2 % 256) ^^^ 27) := Lib.hid (by unfold x2; rw [if_pos h1])
    have hb := u8_xor_nat (b * 2 % 256) 27 (by omega) (by omega)
    go_enter Try.func20, Try.ntmps20
    go_wp2_with fail
    go_ret
    rw [hx.out]
    exact ⟨ret_int (by rw [← hb]; simp), rfl⟩
theorem place_any (r c : Nat) (w : World) (hr : r < 4) (hc : c < 8) : Calls Try.prog 32 #[.int .i64 r, .int .i64 c] w fun e w' => e = .returned (.int .i64 ((4 * (c % 4) + r : Nat) : Int)) ∧ w' = w := by
  go_enter Try.func32, Try.ntmps32
  go_wp2_with fail
  go_ret
  exact ⟨ret_int (by omega), rfl⟩
/-- A byte turned up so often. -/
def rot (q n : Nat) : Nat := (q * 2 ^ n % 256) ||| (q / 2 ^ (8 - n))
theorem turned_any (q n : Nat) (w : World) (hq : q < 256) (hn : 1 ≤ n ∧ n ≤ 4) : Calls Try.prog 30 #[.int .u8 q, .int .i64 n] w fun e w' => e = .returned (.int .u8 (rot q n : Nat)) ∧ Below w.heap.size w w' := by
  rcases (by omega : n = 1 ∨ n = 2 ∨ n = 3 ∨ n = 4) with rfl | rfl | rfl | rfl
  all_goals
    go_enter Try.func30, Try.ntmps30
    go_wp2_with fail
    go_region
    go_wp2_with fail
    go_ret
    exact ⟨ret_int (by unfold rot; first | exact u8_or_nat (q * 2 % 256) (q / 128) (by omega) (by omega) | exact u8_or_nat (q * 4 % 256) (q / 64) (by omega) (by omega) | exact u8_or_nat (q * 8 % 256) (q / 32) (by omega) (by omega) | exact u8_or_nat (q * 16 % 256) (q / 16) (by omega) (by omega)), bl_drew (Below.refl _ _)⟩
theorem and1 (b : Nat) (h : b < 256) : bits .and .u8 (b : Int) 1 = ((b % 2 : Nat) : Int) := by
  have key : ∀ m : Fin 256, bits .and .u8 (m.val : Int) 1 = ((m.val % 2 : Nat) : Int) := by decide +kernel
  exact key ⟨b, h⟩
theorem mulF_odd {f a b : Nat} (h : b % 2 = 1) : mulF (f + 1) a b = a ^^^ mulF f (x2 a) (b / 2) := by rw [mulF, if_pos h]
theorem mulF_even {f a b : Nat} (h : b % 2 = 0) : mulF (f + 1) a b = mulF f (x2 a) (b / 2) := by rw [mulF, if_neg (by omega), Nat.zero_xor]
theorem mulF_fuel : ∀ (f a b : Nat), b < 2 ^ f → mulF (f + 1) a b = mulF f a b
  | 0, a, b, h => by
    obtain rfl : b = 0 := by simp at h; omega
    rw [mulF_zero, mulF_zero]
  | f + 1, a, b, h => by
    rw [mulF, mulF_fuel f (x2 a) (b / 2) (by rw [Nat.pow_succ] at h; omega)]
    rfl
theorem times_any (a b : Nat) (w : World) (ha : a < 256) (hb : b < 256) : Calls Try.prog 7 #[.int .u8 a, .int .u8 b] w fun e w' => e = .returned (.int .u8 (mul a b : Nat)) ∧ w' = w := by
  obtain ⟨m, hm⟩ : ∃ m, mul a b = m := ⟨_, rfl⟩
  have HM := Lib.hid hm
  rw [hm]
  clear hm
  go_enter Try.func7, Try.ntmps7
  go_wp2_with fail
  go_loop [0, 1, 5] (fun x y z => ∃ f c d p : Nat, x = .int .u8 c ∧ y = .int .u8 d ∧ z = .int .u8 p ∧ c < 256 ∧ d < 256 ∧ p < 256 ∧ Hid (d < 2 ^ f) ∧ Hid (p ^^^ mulF f c d = m)) (fun _ y _ => (intOf y).toNat)
  case atStart => exact ⟨8, a, b, 0, rfl, rfl, rfl, ha, hb, by omega, Lib.hid hb, Lib.hid (by rw [Nat.zero_xor]; exact HM.out)⟩
  case round =>
    obtain ⟨f, c, d, p, rfl, rfl, rfl, hc, hd, hp, HD, HR⟩ := hrel
    rcases Nat.eq_zero_or_pos d with h0 | h0
    · subst h0
      have HE : Hid (p = m) := Lib.hid (by rw [← HR.out, mulF_zero, Nat.xor_zero])
      go_wp2_with fail
      go_ret
      rw [HE.out]
      exact ⟨rfl, rfl⟩
    · have h1 := and1 d hd
      have hdi : ¬ (d : Int) = 0 := by omega
      obtain ⟨f, rfl⟩ : ∃ f', f = f' + 1 := by
        cases f with
        | zero => have := HD.out; simp at this; omega
        | succ f => exact ⟨f, rfl⟩
      have HD2 : Hid (d / 2 < 2 ^ f) := Lib.hid (by have h := HD.out; rw [Nat.pow_succ] at h; omega)
      have HT := Lib.hid (fun W => twice_any c W hc)
      have hxl := x2_lt hc
      rcases (by omega : d % 2 = 1 ∨ d % 2 = 0) with h2 | h2
      · have HR2 : Hid ((p ^^^ c) ^^^ mulF f (x2 c) (d / 2) = m) := Lib.hid (by rw [← HR.out, mulF_odd h2, Nat.xor_assoc])
        have hpx := Nat.xor_lt_two_pow (n := 8) (x := p) (y := c) (by omega) (by omega)
        have hx := u8_xor_nat p c hp hc
        rw [h2] at h1
        clear HR HD HM
        generalize x2 c = c2 at *
        generalize p ^^^ c = p2 at *
        go_wp2_with fail
        refine (HT.out w).mono ?_
        rintro e w' ⟨rfl, rfl⟩
        go_wp2_with fail
        go_round
        case rel => exact ⟨f, c2, d / 2, p2, rfl, by go_num, rfl, hxl, by omega, hpx, HD2, HR2⟩
        case measure =>
          simp [intOf]
          omega
      · have HR2 : Hid (p ^^^ mulF f (x2 c) (d / 2) = m) := Lib.hid (by rw [← HR.out, mulF_even h2])
        rw [h2] at h1
        clear HR HD HM
        generalize x2 c = c2 at *
        go_wp2_with fail
        refine (HT.out w).mono ?_
        rintro e w' ⟨rfl, rfl⟩
        go_wp2_with fail
        go_round
        case rel => exact ⟨f, c2, d / 2, p, rfl, by go_num, rfl, hxl, by omega, hp, HD2, HR2⟩
        case measure =>
          simp [intOf]
          omega
end Go.Proofs.Ytppponobefljgaa
