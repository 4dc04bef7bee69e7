/- What is proved: what ReadUint of package wire, and of its reference, answer when they are called; conditions: the slice reads as it is said to. -/
import Derived.Test.YtgkiedbefogklaaWire2
import Derived.Laws.BitsAllLaws
set_option linter.unusedSimpArgs false
set_option linter.unusedVariables false
namespace Go.Proofs.Ytgkiedbefogklaa
open Go.RowKit
set_option maxRecDepth 100000
set_option maxHeartbeats 1000000
/-- The number that bytes of seven bits each stand for. -/
def valU : List Int → Nat
  | [] => 0
  | c :: r => c.toNat % 128 + 128 * valU r
theorem valU_snoc (l : List Int) (c : Int) : valU (l ++ [c]) = valU l + 128 ^ l.length * (c.toNat % 128) := by
  induction l with
  | nil => simp [valU]
  | cons d l ih =>
    simp only [List.cons_append, valU, ih, List.length_cons, Nat.pow_succ]
    rw [Nat.mul_add, Nat.add_assoc]
    congr 1
    rw [Nat.mul_comm (128 ^ l.length) 128, Nat.mul_assoc]
theorem valU_lt (l : List Int) : valU l < 128 ^ l.length := by
  induction l with
  | nil => simp [valU]
  | cons d l ih =>
    simp only [valU, List.length_cons, Nat.pow_succ]
    omega
/-- What is read of bytes, from the k-th on. -/
def rdF : Nat → Nat → List Int → Nat × Nat × Nat
  | 0, _, _ => (0, 0, 8)
  | f + 1, k, bs =>
    if k < bs.length then
      if k = 9 ∧ 1 < bs.getD k 0 then (0, 0, 8)
      else if bs.getD k 0 < 128 then
        if bs.getD k 0 = 0 ∧ 0 < k then (0, 0, 8) else (valU (bs.take (k + 1)), k + 1, 0)
      else rdF f (k + 1) bs
    else (0, 0, 7)
def readS (bs : List Int) : Nat × Nat × Nat := rdF 10 0 bs
theorem rdF_end (k f : Nat) (bs : List Int) (h : ¬ k < bs.length) : rdF (f + 1) k bs = (0, 0, 7) := by
  rw [rdF, if_neg h]
theorem rdF_nine (f : Nat) (bs : List Int) (h : 9 < bs.length) (hc : 1 < bs.getD 9 0) : rdF (f + 1) 9 bs = (0, 0, 8) := by
  rw [rdF, if_pos h, if_pos ⟨rfl, hc⟩]
theorem rdF_zero (k f : Nat) (bs : List Int) (h : k < bs.length) (hc : bs.getD k 0 = 0) (hk : 0 < k) : rdF (f + 1) k bs = (0, 0, 8) := by
  rw [rdF, if_pos h, if_neg (by rw [hc]; omega), if_pos (by rw [hc]; omega), if_pos ⟨hc, hk⟩]
theorem rdF_last (k f : Nat) (bs : List Int) (h : k < bs.length) (hc : bs.getD k 0 < 128) (h9 : ¬ (k = 9 ∧ 1 < bs.getD k 0)) (h0 : ¬ (bs.getD k 0 = 0 ∧ 0 < k)) : rdF (f + 1) k bs = (valU (bs.take (k + 1)), k + 1, 0) := by
  rw [rdF, if_pos h, if_neg h9, if_pos hc, if_neg h0]
theorem rdF_next (k f : Nat) (bs : List Int) (h : k < bs.length) (hc : ¬ bs.getD k 0 < 128) (h9 : k ≠ 9) : rdF (f + 1) k bs = rdF f (k + 1) bs := by
  rw [rdF, if_pos h, if_neg (fun h => h9 h.1), if_neg hc]
theorem take_snoc (bs : List Int) (k : Nat) (h : k < bs.length) : bs.take (k + 1) = bs.take k ++ [bs.getD k 0] := by
  rw [List.take_add_one, List.getElem?_eq_getElem h, List.getD_eq_getElem?_getD, List.getElem?_eq_getElem h]
  rfl
theorem andNot_128 (c : Int) (h : 0 ≤ c ∧ c ≤ 255) : bits .andNot .u64 c 128 = c % 128 := by
  obtain ⟨h0, h1⟩ := h
  obtain ⟨n, rfl⟩ := Int.eq_ofNat_of_zero_le h0
  have hn : n < 256 := by omega
  have key : ∀ m : Fin 256, bits .andNot .u64 (m.val : Int) 128 = ((m.val % 128 : Nat) : Int) := by decide +kernel
  have := key ⟨n, hn⟩
  simpa using this
/-- A byte's seven bits stand above the bits read till then. -/
theorem or_next (bs : List Int) (k : Nat) (hk : k ≤ 9) (hl : k < bs.length) (hc : 0 ≤ bs.getD k 0 ∧ bs.getD k 0 ≤ 255) (h9 : k = 9 → bs.getD k 0 % 128 ≤ 1) :
    bits .or .u64 (valU (bs.take k) : Int) (IntKind.u64.wrap (bs.getD k 0 % 128 * 2 ^ (7 * k))) = (valU (bs.take (k + 1)) : Int) := by
  have hlt := valU_lt (bs.take k)
  have hlen : (bs.take k).length = k := by rw [List.length_take]; omega
  rw [take_snoc bs k hl, valU_snoc, hlen]
  rw [hlen] at hlt
  obtain ⟨h0, h1⟩ := hc
  generalize bs.getD k 0 = c at *
  obtain ⟨c, rfl⟩ := Int.eq_ofNat_of_zero_le h0
  generalize valU (bs.take k) = a at *
  have hp : (128 : Nat) ^ k = 2 ^ (7 * k) := by rw [Nat.pow_mul]
  have hb : 128 ^ k * (c % 128) < 18446744073709551616 ∧ 128 ^ k ≤ 9223372036854775808 := by
    have key : ∀ j : Fin 10, 128 ^ j.val ≤ 9223372036854775808 ∧ (j.val < 9 → 128 ^ j.val * 128 ≤ 9223372036854775808) := by decide +kernel
    obtain ⟨k1, k2⟩ := key ⟨k, by omega⟩
    refine ⟨?_, k1⟩
    by_cases h : k = 9
    · subst h
      have := h9 rfl
      have h2 : c % 128 ≤ 1 := by omega
      have := Nat.mul_le_mul_left (128 ^ 9) h2
      omega
    · have := k2 (by simp; omega)
      have h2 : c % 128 ≤ 128 := by omega
      have := Nat.mul_le_mul_left (128 ^ k) h2
      simp at *
      omega
  have he : ((c : Int) % 128 * 2 ^ (7 * k)) = ((128 ^ k * (c % 128) : Nat) : Int) := by
    rw [hp]
    push_cast
    rw [Int.mul_comm]
  have hw : IntKind.u64.wrap ((c : Int) % 128 * 2 ^ (7 * k)) = ((128 ^ k * (c % 128) : Nat) : Int) := by
    rw [he, IntKind.wrap_u64]
    omega
  rw [hw, u64_or_nat _ _ (by omega) hb.1]
  congr 1
  have hjoin := Nat.two_pow_add_eq_or_of_lt (show a < 2 ^ (7 * k) by omega) (c % 128)
  rw [hp, Nat.or_comm, ← hjoin, Nat.add_comm, Int.toNat_natCast]
theorem readuint_any (v : Value) (bs : List Int) (w : World) (h : BB w v bs) : Calls Try.prog 53 #[v] w fun e w' => e = .returned (.tuple #[.int .u64 (readS bs).1, .int .i64 (readS bs).2.1, .int .i64 (readS bs).2.2]) ∧ w' = w := by
  obtain ⟨hok, hlen, A, cap, rfl, hr, _⟩ := h
  have HR := Lib.hid hr
  have HOK := Lib.hid hok
  clear hr hok
  go_enter Try.func53, Try.ntmps53
  go_wp2_with fail
  go_loop [2, 7] (fun a i => ∃ k : Nat, k ≤ 10 ∧ i = .int .i64 k ∧ a = .int .u64 (valU (bs.take k)) ∧ k ≤ bs.length ∧ Hid (readS bs = rdF (10 - k) k bs)) (fun _ i => 10 - (intOf i).toNat)
  case atStart => exact ⟨0, by omega, rfl, rfl, Nat.zero_le _, rfl⟩
  case round =>
    obtain ⟨k, hk, rfl, rfl, hkl, HS⟩ := hrel
    by_cases h10 : k < 10
    · obtain ⟨f, hf⟩ : ∃ f, 10 - k = f + 1 := ⟨9 - k, by omega⟩
      rw [hf] at HS
      by_cases hl : k < bs.length
      · obtain ⟨b, off, rfl, hc⟩ := HR.out.2 (by omega)
        have c0 := hc k hl
        have hcb := HOK.out.getD k
        clear hc
        by_cases h9 : k = 9 ∧ 1 < bs.getD k 0
        · obtain ⟨rfl, h9⟩ := h9
          have HS2 := Lib.hid (HS.out.trans (rdF_nine f bs hl h9))
          clear HS hf
          generalize bs.getD 9 0 = c at *
          generalize valU (bs.take 9) = a at *
          go_wp2_with fail
          refine bodyPost_ret (v := .tuple #[.int .u64 0, .int .i64 0, .int .i64 8]) (by simp [results, Try.results53, go_sem]) rfl ?_
          rw [HS2.out]
          exact ⟨rfl, rfl⟩
        · have HOR := Lib.hid (or_next bs k (by omega) hl hcb (fun h => by omega))
          by_cases h128 : bs.getD k 0 < 128
          · by_cases h0 : bs.getD k 0 = 0 ∧ 0 < k
            · have HS2 := Lib.hid (HS.out.trans (rdF_zero k f bs hl h0.1 h0.2))
              clear HS hf HOR
              obtain ⟨h0, h0k⟩ := h0
              rw [h0] at c0
              clear hcb h128 h9 h0
              generalize valU (bs.take k) = a at *
              go_wp2_with fail
              all_goals
                refine bodyPost_ret (v := .tuple #[.int .u64 0, .int .i64 0, .int .i64 8]) (by simp [results, Try.results53, go_sem]) rfl ?_
                rw [HS2.out]
                exact ⟨rfl, rfl⟩
            · have HS2 := Lib.hid (HS.out.trans (rdF_last k f bs hl h128 h9 h0))
              rw [← andNot_128 _ hcb] at HOR
              clear HS hf
              generalize bs.getD k 0 = c at *
              generalize valU (bs.take k) = a at *
              generalize valU (bs.take (k + 1)) = a2 at *
              by_cases h9k : k = 9
              · subst h9k
                rw [show (2 : Int) ^ (7 * 9) = 9223372036854775808 by decide] at HOR
                go_wp2_with fail
                all_goals
                  refine bodyPost_ret (v := .tuple #[.int .u64 a2, .int .i64 (9 + 1 : Nat), .int .i64 0]) (by simp [HOR.out, results, Try.results53, go_sem]) rfl ?_
                  rw [HS2.out]
                  exact ⟨rfl, rfl⟩
              · by_cases hc0 : c = 0
                · subst hc0
                  go_wp2_with fail
                  all_goals
                    refine bodyPost_ret (v := .tuple #[.int .u64 a2, .int .i64 (k + 1 : Nat), .int .i64 0]) (by simp [HOR.out, results, Try.results53, go_sem]) rfl ?_
                    rw [HS2.out]
                    exact ⟨rfl, rfl⟩
                · go_wp2_with fail
                  all_goals
                    refine bodyPost_ret (v := .tuple #[.int .u64 a2, .int .i64 (k + 1 : Nat), .int .i64 0]) (by simp [HOR.out, results, Try.results53, go_sem]) rfl ?_
                    rw [HS2.out]
                    exact ⟨rfl, rfl⟩
          · have HS2 := Lib.hid (HS.out.trans (rdF_next k f bs hl h128 (by omega)))
            rw [← andNot_128 _ hcb] at HOR
            clear HS
            generalize bs.getD k 0 = c at *
            generalize valU (bs.take k) = a at *
            go_wp2_with fail
            go_round
            case rel =>
              refine ⟨k + 1, by omega, ?_, ?_, by omega, ?_⟩
              · go_num
              · rw [HOR.out]
              · rw [show 10 - (k + 1) = f by omega]
                exact HS2.out
            case measure =>
              simp [intOf]
              omega
      · have HS2 := Lib.hid (HS.out.trans (rdF_end k f bs hl))
        clear HS hf
        go_wp2_with fail
        refine bodyPost_ret (v := .tuple #[.int .u64 0, .int .i64 0, .int .i64 7]) (by simp [results, Try.results53, go_sem]) rfl ?_
        rw [HS2.out]
        exact ⟨rfl, rfl⟩
    · obtain rfl : k = 10 := by omega
      have HS2 : Hid (readS bs = (0, 0, 8)) := HS.out
      clear HS
      go_wp2_with fail
      refine bodyPost_ret (v := .tuple #[.int .u64 0, .int .i64 0, .int .i64 8]) (by simp [results, Try.results53, go_sem]) rfl ?_
      rw [HS2.out]
      exact ⟨rfl, rfl⟩
end Go.Proofs.Ytgkiedbefogklaa
