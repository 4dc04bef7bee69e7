/- What is proved: arithmetic of bytes as one number, for the laws of bits; plain Lean, no program. -/
import Derived.Test.YtpnejbdfkncjlaaWMore
import Derived.Laws.BitsLemmas
set_option linter.unusedVariables false
set_option linter.unusedSimpArgs false
namespace Go.Proofs.Ytpnejbdfkncjlaa.BitsNum
open Go Go.RowKit Go.Proofs.YtpnejbdfkncjlaaW.PrintWords Go.Proofs.YtpnejbdfkncjlaaW.PrintMore

def num : List Int → Nat
  | [] => 0
  | x :: r => x.toNat + 256 * num r
def u8s (b : List Int) : Prop := ∀ x ∈ b, 0 ≤ x ∧ x < 256

theorem num_lt : ∀ (b : List Int), u8s b → num b < 256 ^ b.length
  | [], _ => by simp [num]
  | x :: r, h => by
    have h1 := num_lt r (fun y hy => h y (List.mem_cons_of_mem _ hy))
    have h2 := h x (by simp)
    simp only [num, List.length_cons, Nat.pow_succ]
    generalize 256 ^ r.length = p at *
    omega

theorem num_inj : ∀ (a b : List Int), u8s a → u8s b → a.length = b.length → num a = num b → a = b
  | [], [], _, _, _, _ => rfl
  | [], _ :: _, _, _, h, _ => by simp at h
  | _ :: _, [], _, _, h, _ => by simp at h
  | x :: r, y :: s, ha, hb, hl, hn => by
    have h1 := ha x (by simp)
    have h2 := hb y (by simp)
    simp only [num] at hn
    have hx : x = y := by omega
    have hr : num r = num s := by omega
    rw [hx, num_inj r s (fun z hz => ha z (List.mem_cons_of_mem _ hz)) (fun z hz => hb z (List.mem_cons_of_mem _ hz)) (by simpa using hl) hr]

theorem num_get : ∀ (b : List Int) (i : Nat), u8s b → i < b.length → num b / 256 ^ i % 256 = (b.getD i 0).toNat
  | [], _, _, h => by simp at h
  | x :: r, 0, hu, _ => by
    have := hu x (by simp)
    simp only [num, Nat.pow_zero, Nat.div_one, List.getD_cons_zero]
    omega
  | x :: r, i + 1, hu, h => by
    have h1 := hu x (by simp)
    have h2 := num_get r i (fun y hy => hu y (List.mem_cons_of_mem _ hy)) (by simpa using h)
    simp only [num, List.getD_cons_succ]
    rw [← h2, Nat.pow_succ, Nat.mul_comm (256 ^ i) 256, ← Nat.div_div_eq_div_mul]
    congr 2
    omega

theorem num_set : ∀ (b : List Int) (i : Nat) (d : Nat), u8s b → i < b.length → num (b.set i (b.getD i 0 + d)) = num b + d * 256 ^ i
  | [], _, _, _, h => by simp at h
  | x :: r, 0, d, hu, _ => by
    have := hu x (by simp)
    simp only [num, List.set_cons_zero, List.getD_cons_zero, Nat.pow_zero]
    omega
  | x :: r, i + 1, d, hu, h => by
    have h1 := hu x (by simp)
    have h2 := num_set r i d (fun y hy => hu y (List.mem_cons_of_mem _ hy)) (by simpa using h)
    simp only [num, List.set_cons_succ, List.getD_cons_succ]
    rw [h2, Nat.pow_succ, Nat.mul_add]
    have : 256 * (d * 256 ^ i) = d * (256 ^ i * 256) := by
      rw [Nat.mul_comm 256, Nat.mul_assoc]
    omega

theorem num_replicate (n : Nat) : num (List.replicate n 0) = 0 := by
  induction n with
  | zero => rfl
  | succ n ih => simp [List.replicate_succ, num, ih]
theorem u8s_replicate (n : Nat) : u8s (List.replicate n 0) := by
  intro x hx
  obtain ⟨_, rfl⟩ := List.mem_replicate.1 hx
  omega
theorem u8s_set (b : List Int) (i : Nat) (z : Int) (h : u8s b) (h0 : 0 ≤ z) (h1 : z < 256) : u8s (b.set i z) := by
  intro x hx
  rcases List.mem_or_eq_of_mem_set hx with h2 | rfl
  · exact h x h2
  · exact ⟨h0, h1⟩
theorem getD_u8 (b : List Int) (i : Nat) (h : u8s b) : 0 ≤ b.getD i 0 ∧ b.getD i 0 < 256 := by
  by_cases hi : i < b.length
  · rw [List.getD_eq_getElem?_getD, List.getElem?_eq_getElem hi]; exact h _ (List.getElem_mem _)
  · rw [List.getD_eq_getElem?_getD, List.getElem?_eq_none (by omega)]; simp

/-- 256^q = 2^(8q) -/
theorem pow256 (q : Nat) : 256 ^ q = 2 ^ (8 * q) := by rw [show 256 = 2 ^ 8 from rfl, ← Nat.pow_mul]

/-- the bit at a place -/
theorem num_bit (b : List Int) (at_ : Nat) (hu : u8s b) (h : at_ < 8 * b.length) :
    (b.getD (at_ / 8) 0).toNat / 2 ^ (at_ % 8) % 2 = num b / 2 ^ at_ % 2 := by
  rw [← num_get b (at_ / 8) hu (by omega), pow256]
  have h1 : num b / 2 ^ at_ = num b / 2 ^ (8 * (at_ / 8)) / 2 ^ (at_ % 8) := by
    rw [Nat.div_div_eq_div_mul, ← Nat.pow_add]
    congr 2; omega
  rw [h1]
  generalize num b / 2 ^ (8 * (at_ / 8)) = m
  have h2 : at_ % 8 < 8 := Nat.mod_lt _ (by decide)
  generalize at_ % 8 = r at h2
  have h3 : (256 : Nat) = 2 ^ r * (2 ^ (7 - r) * 2) := by
    rw [← Nat.mul_assoc, ← Nat.pow_add, ← Nat.pow_succ, show (r + (7 - r)).succ = 8 from by omega]
  rw [h3, Nat.mod_mul_right_div_self, Nat.mod_mul_left_mod]

/-- what is below a place leaves the byte at that place small -/
theorem num_low (b : List Int) (at_ : Nat) (hu : u8s b) (h : at_ < 8 * b.length) (hn : num b < 2 ^ at_) :
    (b.getD (at_ / 8) 0).toNat < 2 ^ (at_ % 8) := by
  rw [← num_get b (at_ / 8) hu (by omega), pow256]
  refine Nat.lt_of_le_of_lt (Nat.mod_le _ _) ?_
  rw [Nat.div_lt_iff_lt_mul (Nat.two_pow_pos _), ← Nat.pow_add, show at_ % 8 + 8 * (at_ / 8) = at_ from by omega]
  exact hn

/-- a step of writing: the low bits of a number are put at a place -/
theorem num_put (b : List Int) (at_ v : Nat) (hu : u8s b) (h : at_ < 8 * b.length) (hn : num b < 2 ^ at_) :
    ∃ z : Int, Go.bits .or .u8 (b.getD (at_ / 8) 0) (shl .u8 ((v : Int) % 256) ((at_ % 8 : Nat) : Int)) = z ∧ 0 ≤ z ∧ z < 256 ∧
      num (b.set (at_ / 8) z) = num b + (v % 2 ^ (8 - at_ % 8)) * 2 ^ at_ := by
  have hr : at_ % 8 < 8 := Nat.mod_lt _ (by decide)
  have hlow := num_low b at_ hu h hn
  have hg := getD_u8 b (at_ / 8) hu
  have hs : shl .u8 ((v : Int) % 256) ((at_ % 8 : Nat) : Int) = (((v % 2 ^ (8 - at_ % 8)) * 2 ^ (at_ % 8) : Nat) : Int) := by
    unfold shl
    rw [IntKind.wrap_u8, Int.toNat_natCast, Nat.min_eq_left (by simp [IntKind.bits]; omega)]
    have : ((v : Int) % 256 * 2 ^ (at_ % 8)) % 256 = (((v % 256) * 2 ^ (at_ % 8) % 256 : Nat) : Int) := by rw [Int.natCast_emod, Int.natCast_mul, Int.natCast_emod, Int.natCast_pow]; rfl
    rw [this]
    congr 1
    have h3 : (256 : Nat) = 2 ^ (8 - at_ % 8) * 2 ^ (at_ % 8) := by rw [← Nat.pow_add, show 8 - at_ % 8 + at_ % 8 = 8 from by omega]
    rw [Nat.mod_mul_mod, h3, Nat.mul_mod_mul_right]
  have hb : (v % 2 ^ (8 - at_ % 8)) * 2 ^ (at_ % 8) < 256 := by
    have h3 : (256 : Nat) = 2 ^ (8 - at_ % 8) * 2 ^ (at_ % 8) := by rw [← Nat.pow_add, show 8 - at_ % 8 + at_ % 8 = 8 from by omega]
    rw [h3]
    exact Nat.mul_lt_mul_of_pos_right (Nat.mod_lt _ (Nat.two_pow_pos _)) (Nat.two_pow_pos _)
  have hz : Go.bits .or .u8 (b.getD (at_ / 8) 0) (shl .u8 ((v : Int) % 256) ((at_ % 8 : Nat) : Int)) = b.getD (at_ / 8) 0 + ((v % 2 ^ (8 - at_ % 8)) * 2 ^ (at_ % 8) : Nat) := by
    rw [hs]
    have := (bits_nat .u8 8 (by decide) wraps_u8 (b.getD (at_ / 8) 0).toNat ((v % 2 ^ (8 - at_ % 8)) * 2 ^ (at_ % 8)) (by omega) (by simpa using hb)).2
    rw [Int.toNat_of_nonneg hg.1] at this
    rw [this, Nat.or_comm, Nat.mul_comm, ← Nat.two_pow_add_eq_or_of_lt hlow]
    omega
  have hsum : (b.getD (at_ / 8) 0).toNat + (v % 2 ^ (8 - at_ % 8)) * 2 ^ (at_ % 8) < 256 := by
    have h3 : (256 : Nat) = 2 ^ (8 - at_ % 8) * 2 ^ (at_ % 8) := by rw [← Nat.pow_add, show 8 - at_ % 8 + at_ % 8 = 8 from by omega]
    have h4 : v % 2 ^ (8 - at_ % 8) + 1 ≤ 2 ^ (8 - at_ % 8) := Nat.mod_lt _ (Nat.two_pow_pos _)
    have h5 := Nat.mul_le_mul_right (2 ^ (at_ % 8)) h4
    rw [Nat.add_mul] at h5
    omega
  refine ⟨_, hz, by omega, by omega, ?_⟩
  rw [num_set b (at_ / 8) _ hu (by omega), pow256, Nat.mul_assoc, ← Nat.pow_add, show at_ % 8 + 8 * (at_ / 8) = at_ from by omega]

/-- the sum of sizes, and the number that is written -/
def sumS : List (Nat × Nat) → Nat
  | [] => 0
  | x :: r => x.2 + sumS r
def val : List (Nat × Nat) → Nat
  | [] => 0
  | x :: r => x.1 + 2 ^ x.2 * val r
theorem val_lt : ∀ l : List (Nat × Nat), (∀ x ∈ l, x.1 < 2 ^ x.2) → val l < 2 ^ sumS l
  | [], _ => by simp [val, sumS]
  | x :: r, h => by
    have h1 := val_lt r (fun y hy => h y (List.mem_cons_of_mem _ hy))
    have h2 := h x (by simp)
    simp only [val, sumS, Nat.pow_add]
    have h3 := Nat.mul_le_mul_left (2 ^ x.2) (Nat.succ_le_of_lt h1)
    rw [Nat.mul_succ] at h3
    omega
theorem sumS_append (l m : List (Nat × Nat)) : sumS (l ++ m) = sumS l + sumS m := by
  induction l with
  | nil => simp [sumS]
  | cons x r ih => simp [sumS, ih, Nat.add_assoc]
theorem val_append (l m : List (Nat × Nat)) : val (l ++ m) = val l + 2 ^ sumS l * val m := by
  induction l with
  | nil => simp [val, sumS]
  | cons x r ih => simp only [List.cons_append, val, sumS, ih, Nat.pow_add, Nat.mul_add, Nat.mul_assoc, Nat.add_assoc]
/-- what is read at a part's place is the part -/
theorem val_part (p : List (Nat × Nat)) (x : Nat × Nat) (q : List (Nat × Nat)) (hp : ∀ y ∈ p, y.1 < 2 ^ y.2) (hx : x.1 < 2 ^ x.2) :
    val (p ++ x :: q) / 2 ^ sumS p % 2 ^ x.2 = x.1 := by
  rw [val_append, Nat.add_mul_div_left _ _ (Nat.two_pow_pos _), Nat.div_eq_of_lt (val_lt p hp), Nat.zero_add]
  simp only [val]
  rw [Nat.add_mul_mod_self_left, Nat.mod_eq_of_lt hx]

/-- the low bits, turned round -/
def rev : Nat → Nat → Nat
  | 0, _ => 0
  | k + 1, v => 2 * rev k v + v / 2 ^ k % 2
theorem rev_lt : ∀ k v, rev k v < 2 ^ k
  | 0, _ => by simp [rev]
  | k + 1, v => by
    have := rev_lt k v
    simp only [rev, Nat.pow_succ]
    omega
theorem rev_bit : ∀ k v j, j < k → rev k v / 2 ^ j % 2 = v / 2 ^ (k - 1 - j) % 2
  | k + 1, v, 0, _ => by
    simp only [rev, Nat.pow_zero, Nat.div_one, Nat.add_sub_cancel, Nat.sub_zero]
    omega
  | k + 1, v, j + 1, h => by
    have h1 := rev_bit k v j (by omega)
    simp only [rev]
    rw [Nat.pow_succ, Nat.mul_comm (2 ^ j) 2, ← Nat.div_div_eq_div_mul, show (2 * rev k v + v / 2 ^ k % 2) / 2 = rev k v from by omega, h1]
    congr 3
    omega
theorem rev_mod (s v : Nat) : ∀ k, k ≤ s → rev k (rev s v) = v / 2 ^ (s - k) % 2 ^ k
  | 0, _ => by simp [rev, Nat.mod_one]
  | k + 1, h => by
    have h1 := rev_mod s v k (by omega)
    simp only [rev]
    rw [h1, rev_bit s v k (by omega), show s - 1 - k = s - (k + 1) from by omega]
    have h2 : v / 2 ^ (s - k) = v / 2 ^ (s - (k + 1)) / 2 := by
      rw [Nat.div_div_eq_div_mul, ← Nat.pow_succ, show (s - (k + 1)).succ = s - k from by omega]
    rw [h2]
    generalize v / 2 ^ (s - (k + 1)) = m
    rw [Nat.pow_succ, Nat.mul_comm (2 ^ k) 2, Nat.mod_mul]
    omega
theorem rev_rev (s v : Nat) (h : v < 2 ^ s) : rev s (rev s v) = v := by
  rw [rev_mod s v s (Nat.le_refl _)]
  simp [Nat.mod_eq_of_lt h]

/-- some fuel is enough, and more is as good -/
def Evy {α : Type} (F : Nat → Option α) (r : α) : Prop := ∃ k0, ∀ k, k0 ≤ k → F k = some r
theorem Evy.const {α : Type} {F : Nat → Option α} {r : α} (h : ∀ k, F k = some r) : Evy F r := ⟨0, fun k _ => h k⟩
theorem Evy.bind {α β : Type} {F : Nat → Option α} {G : Nat → α → Option β} {a : α} {r : β} (h : Evy F a) (g : Evy (fun k => G k a) r) : Evy (fun k => (F k).bind (G k)) r := by
  obtain ⟨k0, h0⟩ := h
  obtain ⟨k1, h1⟩ := g
  refine ⟨max k0 k1, fun k hk => ?_⟩
  show (F k).bind (G k) = some r
  rw [h0 k (by omega)]
  exact h1 k (by omega)
theorem Evy.step {α : Type} {F G : Nat → Option α} {r : α} (h : ∀ k, F (k + 1) = G k) (g : Evy G r) : Evy F r := by
  obtain ⟨k1, h1⟩ := g
  refine ⟨k1 + 1, fun k hk => ?_⟩
  obtain ⟨j, rfl⟩ : ∃ j, k = j + 1 := ⟨k - 1, by omega⟩
  rw [h j]
  exact h1 j (by omega)
theorem Evy.of_eq {α : Type} {F G : Nat → Option α} {r : α} (h : ∀ k, F k = G k) (g : Evy G r) : Evy F r := by
  obtain ⟨k1, h1⟩ := g
  exact ⟨k1, fun k hk => (h k).trans (h1 k hk)⟩
end Go.Proofs.Ytpnejbdfkncjlaa.BitsNum
