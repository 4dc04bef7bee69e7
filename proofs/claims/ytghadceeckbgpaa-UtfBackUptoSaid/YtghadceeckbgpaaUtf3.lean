/- What is proved: what character and next of package utf answer when they are called; conditions: the slice reads as it is said to, and is not empty. -/
import Derived.Test.YtghadceeckbgpaaUtf2
set_option linter.unusedSimpArgs false
set_option linter.unusedVariables false
namespace Go.Proofs.Ytghadceeckbgpaa
open Go.RowKit
set_option maxRecDepth 100000
set_option maxHeartbeats 4000000
theorem ofInt_i32 (a : Nat) (ha : a < 4294967296) : (BitVec.ofInt 32 (a : Int)).toNat = a := by
  rw [BitVec.ofInt_natCast, BitVec.toNat_ofNat]; exact Nat.mod_eq_of_lt (by omega)
theorem i32_and_nat (a b : Nat) (ha : a < 2147483648) (hb : b < 2147483648) : bits .and .i32 (a : Int) (b : Int) = ((a &&& b : Nat) : Int) := by
  have hx : a &&& b < 2 ^ 31 := Nat.and_lt_two_pow _ (by omega)
  show IntKind.i32.wrap ((BitVec.ofInt 32 (a : Int) &&& BitVec.ofInt 32 (b : Int)).toNat : Int) = _
  rw [BitVec.toNat_and, ofInt_i32 a (by omega), ofInt_i32 b (by omega)]
  generalize a &&& b = c at *
  simp [IntKind.wrap, IntKind.bits, IntKind.signed]
  omega
theorem i32_or_nat (a b : Nat) (ha : a < 2147483648) (hb : b < 2147483648) : bits .or .i32 (a : Int) (b : Int) = ((a ||| b : Nat) : Int) := by
  have hx : a ||| b < 2 ^ 31 := Nat.or_lt_two_pow (by omega) (by omega)
  show IntKind.i32.wrap ((BitVec.ofInt 32 (a : Int) ||| BitVec.ofInt 32 (b : Int)).toNat : Int) = _
  rw [BitVec.toNat_or, ofInt_i32 a (by omega), ofInt_i32 b (by omega)]
  generalize a ||| b = c at *
  simp [IntKind.wrap, IntKind.bits, IntKind.signed]
  omega
/-- A byte's bits taken on. -/
def chF : Int → List Int → Int
  | c, [] => c
  | c, x :: r => chF (64 * c + x % 64) r
theorem chF_app (c : Int) (l : List Int) (x : Int) : chF c (l ++ [x]) = 64 * chF c l + x % 64 := by
  induction l generalizing c with
  | nil => rfl
  | cons y l ih => exact ih _
theorem chF_lt {c : Int} (hc : 0 ≤ c) (l : List Int) : 0 ≤ chF c l ∧ chF c l < (c + 1) * 64 ^ l.length := by
  induction l generalizing c with
  | nil => simp [chF]; omega
  | cons y l ih =>
    have := ih (c := 64 * c + y % 64) (by omega)
    refine ⟨this.1, Int.lt_of_lt_of_le this.2 ?_⟩
    rw [List.length_cons, Int.pow_succ, Int.mul_comm (64 ^ l.length) 64, ← Int.mul_assoc]
    exact Int.mul_le_mul_of_nonneg_right (by omega) (Int.pow_nonneg (by omega))
/-- What the first byte of a form bears. -/
def chH (bs : List Int) : Int := if bs.length = 1 then bs.getD 0 0 else bs.getD 0 0 % (2 ^ (7 - bs.length) : Nat)
def charS (bs : List Int) : Int := chF (chH bs) (bs.drop 1)
theorem join6 (c x : Int) (hc : 0 ≤ c ∧ c < 2097152) (hx : 0 ≤ x ∧ x ≤ 255) : bits .or .i32 (c * 64) (bits .and .u8 x 63) = 64 * c + x % 64 := by
  obtain ⟨hc1, hc2⟩ := hc
  obtain ⟨c, rfl⟩ := Int.eq_ofNat_of_zero_le hc1
  obtain ⟨x, rfl⟩ := Int.eq_ofNat_of_zero_le hx.1
  have e1 : bits .and .u8 (x : Int) 63 = ((x % 64 : Nat) : Int) := by
    have := u8_and_nat x 63 (by omega) (by omega)
    rw [show ((63 : Nat) : Int) = 63 from rfl] at this
    rw [this, Nat.and_two_pow_sub_one_eq_mod x 6]
  have e2 : ((c : Int) * 64) = ((c * 64 : Nat) : Int) := by omega
  rw [e1, e2, i32_or_nat _ _ (by omega) (by omega), nat_join 6 (c * 64) (x % 64) (by omega) (by omega)]
  omega
theorem head_and (x : Int) (n : Nat) (hx : 0 ≤ x ∧ x ≤ 255) (hn : n ≤ 5) : bits .and .i32 x ((2 ^ n - 1 : Nat) : Int) = x % (2 ^ n : Nat) := by
  obtain ⟨x, rfl⟩ := Int.eq_ofNat_of_zero_le hx.1
  have h : 2 ^ n ≤ 32 := Nat.pow_le_pow_right (by omega) hn
  rw [i32_and_nat _ _ (by omega) (by omega), Nat.and_two_pow_sub_one_eq_mod]
  rfl
theorem character_any (v : Value) (bs : List Int) (w : World) (h : BB w v bs) (hp : 0 < bs.length) (h4 : bs.length ≤ 4) :
    Calls Try.prog 30 #[v] w fun e w' => e = .returned (.int .i32 (charS bs)) ∧ Below w.heap.size w w' := by
  obtain ⟨hok, hlen, A, cap, rfl, hr, hnc, hlc, hcm⟩ := h
  obtain ⟨b, off, rfl, hc⟩ := hr.2 hp
  have hbl := hr.lt_ hp rfl
  have c0 := hc 0 hp
  rw [Nat.add_zero] at c0
  have hb0 := hok.getD 0
  have HC := Lib.hid hc
  have HOK := Lib.hid hok
  clear hr hok hc hnc
  rcases (by omega : bs.length = 1 ∨ (2 ≤ bs.length ∧ bs.length ≤ 4)) with h1 | h2
  · have HS : Hid (charS bs = bs.getD 0 0) := Lib.hid (by
      unfold charS chH
      rw [if_pos h1, List.drop_of_length_le (by omega)]
      rfl)
    rw [h1] at hp hlen hlc ⊢
    clear h4
    generalize bs.getD 0 0 = b0 at *
    go_enter Try.func30, Try.ntmps30
    go_wp2_with fail
    go_ret
    rw [HS.out]
    exact ⟨rfl, Below.refl _ _⟩
  · obtain ⟨n, hn⟩ : ∃ n, bs.length = n := ⟨_, rfl⟩
    obtain ⟨c, hcc⟩ : ∃ c, chH bs = c := ⟨_, rfl⟩
    have hc2 : c = bs.getD 0 0 % (2 ^ (7 - n) : Nat) := by rw [← hcc]; unfold chH; rw [if_neg (by omega), hn]
    have hand := head_and (bs.getD 0 0) (7 - n) hb0 (by omega)
    rw [← hc2] at hand
    have HS : Hid (charS bs = chF c (bs.drop 1)) := Lib.hid (by unfold charS; rw [hcc])
    have HCB : Hid (0 ≤ c ∧ c < 32) := Lib.hid (by
      rw [hc2]
      have h : 2 ^ (7 - n) ≤ 32 := Nat.pow_le_pow_right (n := 2) (by omega) (by omega : 7 - n ≤ 5)
      have h0 : 0 < 2 ^ (7 - n) := Nat.pow_pos (by omega)
      have h1 := Int.emod_nonneg (bs.getD 0 0) (b := ((2 ^ (7 - n) : Nat) : Int)) (by omega)
      have h2 := Int.emod_lt_of_pos (bs.getD 0 0) (b := ((2 ^ (7 - n) : Nat) : Int)) (by omega)
      omega)
    rw [hn] at hp h4 hlen hlc h2 ⊢
    have HN := Lib.hid hn
    clear hcc hc2 hn
    generalize bs.getD 0 0 = b0 at *
    rcases (by omega : n = 2 ∨ n = 3 ∨ n = 4) with rfl | rfl | rfl
    all_goals
      simp at hand
      go_enter Try.func30, Try.ntmps30
      go_wp2_with fail
      go_region
      go_wp2_with fail
      go_loop [3, 26] (fun a i => ∃ k : Nat, k + 1 ≤ bs.length ∧ i = .int .i64 k ∧ a = .int .i32 (chF c ((bs.drop 1).take k))) (fun _ i => 4 - (intOf i).toNat)
      case atStart => exact ⟨0, by rw [HN.out]; omega, rfl, rfl⟩
      case round =>
        obtain ⟨k, hk, rfl, rfl⟩ := hrel
        have hkn := hk
        rw [HN.out] at hkn
        by_cases hlt : k + 1 < bs.length
        · have hltn := hlt
          rw [HN.out] at hltn
          have cx := HC.out (k + 1) hlt
          have hx := HOK.out.getD (k + 1)
          have hb := chF_lt HCB.out.1 ((bs.drop 1).take k)
          have hlk : ((bs.drop 1).take k).length = k := by simp; omega
          rw [hlk] at hb
          have hnx : chF c ((bs.drop 1).take (k + 1)) = 64 * chF c ((bs.drop 1).take k) + bs.getD (k + 1) 0 % 64 := by
            have e : (bs.drop 1).take (k + 1) = (bs.drop 1).take k ++ [bs.getD (k + 1) 0] := by
              rw [List.take_add_one, List.getElem?_drop, List.getD_eq_getElem?_getD, Nat.add_comm 1 k, List.getElem?_eq_getElem hlt]
              rfl
            rw [e, chF_app]
          have hp64 : (64 : Int) ^ k ≤ 4096 := by
            have h : 64 ^ k ≤ 64 ^ 2 := Nat.pow_le_pow_right (by omega) (by omega)
            have h2 : ((64 ^ k : Nat) : Int) ≤ 4096 := by omega
            simpa using h2
          have hcb := HCB.out
          have hb2 : chF c ((bs.drop 1).take k) < 2097152 := by
            have h1 : (c + 1) * 64 ^ k ≤ 32 * 4096 := Int.mul_le_mul (by omega) hp64 (Int.pow_nonneg (by omega)) (by omega)
            omega
          have hb1 := hb.1
          have HNX := Lib.hid hnx
          have HJ := Lib.hid (join6 (chF c ((bs.drop 1).take k)) (bs.getD (k + 1) 0) ⟨hb1, hb2⟩ hx)
          clear hb hlk hnx hp64 hcb
          generalize chF c ((bs.drop 1).take k) = d at *
          generalize bs.getD (k + 1) 0 = x at *
          rw [Nat.add_comm k 1, ← Nat.add_assoc] at cx
          have hw : IntKind.i32.wrap (d * 64) = d * 64 := by
            simp [IntKind.wrap, IntKind.bits, IntKind.signed]
            omega
          go_wp2_with fail
          go_round
          case rel =>
            refine ⟨k + 1, by omega, by go_num, ?_⟩
            rw [HNX.out, Int.mul_comm]
          case measure =>
            simp [intOf]
            omega
        · have e1 : (bs.drop 1).take k = bs.drop 1 := List.take_of_length_le (by simp; omega)
          have HS2 := Lib.hid (HS.out.trans (by rw [← e1]))
          clear HS e1
          rw [HN.out] at hlt
          generalize chF c ((bs.drop 1).take k) = d at *
          go_wp2_with fail
          go_ret
          rw [HS2.out]
          exact ⟨rfl, by (repeat' (first | (with_reducible exact Below.refl _ _) | (with_reducible assumption) | (with_reducible refine Below.alloc ?_ ?_ _) | (with_reducible refine below_setRow ?_ ?_ _) | (with_reducible refine bl_drew ?_) | (with_reducible refine bl_drewN ?_ _) | (with_reducible refine Below.setCell ?_ ?_ _) | (with_reducible refine bl_then ?_ ?_ hb) | (with_reducible refine bl_then ?_ ?_ hb1) | (with_reducible refine bl_then ?_ ?_ hb2) | (with_reducible refine bl_then ?_ ?_ hb3) | (with_reducible refine bl_then ?_ ?_ hb4) | (with_reducible refine bl_then ?_ ?_ hb5) | (with_reducible refine bl_then ?_ ?_ hb6) | (with_reducible refine bl_then ?_ ?_ hb7) | (with_reducible refine bl_then ?_ ?_ hb8) | (with_reducible exact Nat.le_refl _) | omega | (simp only [World.size_alloc, World.size_setCell, World.size_drew, size_setRow]; omega) | (simp; omega) | (simp; done)))⟩
end Go.Proofs.Ytghadceeckbgpaa
