/- What is proved: products of bytes are those of a field; conditions: the bytes are below 256. -/
import Derived.Test.YtppponobefljgaaAes3
set_option linter.unusedSimpArgs false
set_option linter.unusedVariables false
namespace Go.Proofs.Ytppponobefljgaa
set_option maxRecDepth 100000
set_option maxHeartbeats 4000000
theorem mod_xor (b c : Nat) : (b ^^^ c) % 2 = (b % 2 + c % 2) % 2 := by
  have h : (b ^^^ c) % 2 ^ 1 = (b % 2 ^ 1) ^^^ (c % 2 ^ 1) := Nat.xor_mod_two_pow
  rw [show (2 : Nat) ^ 1 = 2 from rfl] at h
  rw [h]
  rcases (by omega : b % 2 = 0 ∨ b % 2 = 1) with h1 | h1 <;> rcases (by omega : c % 2 = 0 ∨ c % 2 = 1) with h2 | h2 <;> rw [h1, h2] <;> decide
theorem xor4 (p q r s : Nat) : (p ^^^ q) ^^^ (r ^^^ s) = (p ^^^ r) ^^^ (q ^^^ s) := by
  rw [Nat.xor_assoc, Nat.xor_assoc, ← Nat.xor_assoc q r s, Nat.xor_comm q r, Nat.xor_assoc r q s]
theorem mulF_right : ∀ (f a b c : Nat), mulF f a (b ^^^ c) = mulF f a b ^^^ mulF f a c
  | 0, _, _, _ => by simp [mulF]
  | f + 1, a, b, c => by
    unfold mulF
    rw [show (b ^^^ c) / 2 = (b / 2) ^^^ (c / 2) from Nat.xor_div_two, mulF_right f (x2 a) (b / 2) (c / 2), mod_xor, xor4]
    congr 1
    rcases (by omega : b % 2 = 0 ∨ b % 2 = 1) with h1 | h1 <;> rcases (by omega : c % 2 = 0 ∨ c % 2 = 1) with h2 | h2 <;> simp [h1, h2]
theorem mul_right (a b c : Nat) : mul a (b ^^^ c) = mul a b ^^^ mul a c := mulF_right 8 a b c
theorem x2_xor (a b : Nat) (ha : a < 256) (hb : b < 256) : x2 (a ^^^ b) = x2 a ^^^ x2 b := by
  have key : ∀ a : Fin 256, ∀ b : Fin 256, x2 (a.val ^^^ b.val) = x2 a.val ^^^ x2 b.val := by decide +kernel
  exact key ⟨a, ha⟩ ⟨b, hb⟩
theorem mulF_left : ∀ (f a b c : Nat), a < 256 → b < 256 → mulF f (a ^^^ b) c = mulF f a c ^^^ mulF f b c
  | 0, _, _, _, _, _ => by simp [mulF]
  | f + 1, a, b, c, ha, hb => by
    unfold mulF
    rw [x2_xor a b ha hb, mulF_left f (x2 a) (x2 b) (c / 2) (x2_lt ha) (x2_lt hb), xor4]
    congr 1
    by_cases h : c % 2 = 1 <;> simp [h]
theorem mul_left (a b c : Nat) (ha : a < 256) (hb : b < 256) : mul (a ^^^ b) c = mul a c ^^^ mul b c := mulF_left 8 a b c ha hb
theorem mul_lt (a b : Nat) (ha : a < 256) : mul a b < 256 := mulF_lt 8 a b ha
theorem pow_split : ∀ n, n < 8 → ∀ a, a < 256 → 2 ^ n ≤ a → a < 2 ^ (n + 1) → a = (2 ^ n) ^^^ (a - 2 ^ n) := by decide +kernel
/-- What turns exclusive or into exclusive or is told by its eight bits. -/
theorem lin_ext {f g : Nat → Nat} (hf : ∀ a b, a < 256 → b < 256 → f (a ^^^ b) = f a ^^^ f b) (hg : ∀ a b, a < 256 → b < 256 → g (a ^^^ b) = g a ^^^ g b) (h : ∀ i, i < 8 → f (2 ^ i) = g (2 ^ i)) : ∀ n, n ≤ 8 → ∀ a, a < 2 ^ n → f a = g a
  | 0, _, a, ha => by
    obtain rfl : a = 0 := by simp at ha; exact ha
    have h1 := hf 0 0 (by omega) (by omega)
    have h2 := hg 0 0 (by omega) (by omega)
    rw [Nat.xor_self, Nat.xor_self] at h1 h2
    rw [h1, h2]
  | n + 1, hn, a, ha => by
    have ih := lin_ext hf hg h n (by omega)
    by_cases hl : a < 2 ^ n
    · exact ih a hl
    · have hp : 2 ^ (n + 1) ≤ 2 ^ 8 := Nat.pow_le_pow_right (by omega) hn
      have hp2 : 2 ^ (n + 1) = 2 * 2 ^ n := by rw [Nat.pow_succ]; omega
      have e := pow_split n (by omega) a (by omega) (by omega) ha
      rw [e, hf _ _ (by omega) (by omega), hg _ _ (by omega) (by omega), h n (by omega), ih (a - 2 ^ n) (by omega)]
theorem lin_all {f g : Nat → Nat} (hf : ∀ a b, a < 256 → b < 256 → f (a ^^^ b) = f a ^^^ f b) (hg : ∀ a b, a < 256 → b < 256 → g (a ^^^ b) = g a ^^^ g b) (h : ∀ i, i < 8 → f (2 ^ i) = g (2 ^ i)) (a : Nat) (ha : a < 256) : f a = g a :=
  lin_ext hf hg h 8 (by omega) a ha
theorem pow_lt {i : Nat} (h : i < 8) : 2 ^ i < 256 := Nat.pow_lt_pow_right (a := 2) (n := 8) (by omega) h
theorem mul_comm (a b : Nat) (ha : a < 256) (hb : b < 256) : mul a b = mul b a := by
  refine lin_all (f := fun a => mul a b) (g := fun a => mul b a) (fun x y hx hy => mul_left x y b hx hy) (fun x y _ _ => mul_right b x y) (fun i hi => ?_) a ha
  refine lin_all (f := fun b => mul (2 ^ i) b) (g := fun b => mul b (2 ^ i)) (fun x y _ _ => mul_right _ x y) (fun x y hx hy => mul_left x y _ hx hy) (fun j hj => ?_) b hb
  have key : ∀ i, i < 8 → ∀ j, j < 8 → mul (2 ^ i) (2 ^ j) = mul (2 ^ j) (2 ^ i) := by decide +kernel
  exact key i hi j hj
theorem mul_assoc (a b c : Nat) (ha : a < 256) (hb : b < 256) (hc : c < 256) : mul (mul a b) c = mul a (mul b c) := by
  refine lin_all (f := fun a => mul (mul a b) c) (g := fun a => mul a (mul b c)) (fun x y hx hy => ?_) (fun x y hx hy => mul_left x y _ hx hy) (fun i hi => ?_) a ha
  · show mul (mul (x ^^^ y) b) c = mul (mul x b) c ^^^ mul (mul y b) c
    rw [mul_left x y b hx hy, mul_left _ _ c (mul_lt x b hx) (mul_lt y b hy)]
  have hpi := pow_lt hi
  refine lin_all (f := fun b => mul (mul (2 ^ i) b) c) (g := fun b => mul (2 ^ i) (mul b c)) (fun x y hx hy => ?_) (fun x y hx hy => ?_) (fun j hj => ?_) b hb
  · show mul (mul (2 ^ i) (x ^^^ y)) c = _
    rw [mul_right, mul_left _ _ c (mul_lt _ x hpi) (mul_lt _ y hpi)]
  · show mul (2 ^ i) (mul (x ^^^ y) c) = _
    rw [mul_left x y c hx hy, mul_right]
  refine lin_all (f := fun c => mul (mul (2 ^ i) (2 ^ j)) c) (g := fun c => mul (2 ^ i) (mul (2 ^ j) c)) (fun x y _ _ => mul_right _ x y) (fun x y hx hy => ?_) (fun k hk => ?_) c hc
  · show mul (2 ^ i) (mul (2 ^ j) (x ^^^ y)) = _
    rw [mul_right, mul_right]
  have key : ∀ i, i < 8 → ∀ j, j < 8 → ∀ k, k < 8 → mul (mul (2 ^ i) (2 ^ j)) (2 ^ k) = mul (2 ^ i) (mul (2 ^ j) (2 ^ k)) := by decide +kernel
  exact key i hi j hj k hk
theorem mul_one (a : Nat) (ha : a < 256) : mul a 1 = a := by
  have key : ∀ a : Fin 256, mul a.val 1 = a.val := by decide +kernel
  exact key ⟨a, ha⟩
theorem mul_zero (a : Nat) : mul a 0 = 0 := mulF_zero 8 a
theorem zero_mul (b : Nat) (hb : b < 256) : mul 0 b = 0 := by rw [mul_comm 0 b (by omega) hb, mul_zero]
def inv (a : Nat) : Nat := pT ((255 - logT a) % 255)
theorem inv_mul : ∀ a, a < 256 → a ≠ 0 → mul (inv a) a = 1 ∧ inv a < 256 := by decide +kernel
theorem mul_zero_iff (a b : Nat) (ha : a < 256) (hb : b < 256) : mul a b = 0 ↔ a = 0 ∨ b = 0 := by
  constructor
  · intro h
    by_cases h0 : a = 0
    · exact .inl h0
    · obtain ⟨h1, h2⟩ := inv_mul a ha h0
      have h3 := mul_assoc (inv a) a b h2 ha hb
      rw [h1, h, mul_zero, mul_comm 1 b (by omega) hb, mul_one b hb] at h3
      exact .inr h3
  · rintro (rfl | rfl)
    · exact zero_mul b hb
    · exact mul_zero a
end Go.Proofs.Ytppponobefljgaa
