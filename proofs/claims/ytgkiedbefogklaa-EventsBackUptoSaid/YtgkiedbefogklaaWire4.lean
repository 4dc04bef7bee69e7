/- What is proved: the forms of numbers and what is read of bytes belong together (plain law); no condition beyond those typed. -/
import Derived.Test.YtgkiedbefogklaaWire3
set_option linter.unusedSimpArgs false
set_option linter.unusedVariables false
namespace Go.Proofs.Ytgkiedbefogklaa
open Go.RowKit
set_option maxRecDepth 100000
set_option maxHeartbeats 1000000
/-- Bytes that are a number's form, but for the last one's size. -/
structure Form (l : List Int) (c : Int) : Prop where
  more : ∀ x ∈ l, 128 ≤ x ∧ x ≤ 255
  last : 0 ≤ c ∧ c < 128
  full : l ≠ [] → 0 < c
theorem uintF_form : ∀ (f n : Nat), n < 2 * 128 ^ f → ∃ l c, uintF f n = l ++ [c] ∧ Form l c
  | 0, n, h => ⟨[], n, uintF_small (by omega), by simp, by omega, by simp⟩
  | f + 1, n, h => by
    by_cases hn : 128 ≤ n
    · obtain ⟨l, c, e, F⟩ := uintF_form f (n / 128) (by rw [Nat.pow_succ] at h; omega)
      refine ⟨((n : Int) % 128 + 128) :: l, c, ?_, ?_, F.last, ?_⟩
      · unfold uintF
        rw [if_pos hn, e]
        rfl
      · intro x hx
        rcases List.mem_cons.1 hx with rfl | hx
        · omega
        · exact F.more x hx
      · intro _
        by_cases hl : l = []
        · subst hl
          by_cases h2 : 128 ≤ n / 128
          · exfalso
            match f, e with
            | 0, e => simp only [Nat.pow_succ, Nat.pow_zero] at h; omega
            | f + 1, e =>
              have hl := congrArg List.length e
              unfold uintF at hl
              rw [if_pos h2] at hl
              simp only [List.length_cons, List.nil_append, List.length_nil] at hl
              have : 0 < (uintF f (n / 128 / 128)).length := by
                unfold uintF
                match f with
                | 0 => simp
                | f + 1 => simp only; split <;> simp
              omega
          · rw [uintF_small h2] at e
            simp only [List.nil_append, List.cons.injEq] at e
            omega
        · exact F.full hl
    · exact ⟨[], n, uintF_small hn, by simp, by omega, by simp⟩
theorem uintB_form {n : Nat} (h : n < 18446744073709551616) : ∃ l c, uintB n = l ++ [c] ∧ Form l c := uintF_form 10 n (by omega)
theorem valU_uintF : ∀ (f n : Nat), n < 2 * 128 ^ f → f ≠ 0 → valU (uintF f n) = n ∨ 128 ^ f ≤ n
  | 0, n, h, h0 => absurd rfl h0
  | f + 1, n, h, _ => by
    by_cases hn : 128 ≤ n
    · unfold uintF
      rw [if_pos hn]
      show ((n : Int) % 128 + 128).toNat % 128 + 128 * valU (uintF f (n / 128)) = n ∨ _
      have h1 : ((n : Int) % 128 + 128).toNat % 128 = n % 128 := by omega
      rw [h1]
      by_cases h0 : f = 0
      · subst h0
        simp only [Nat.pow_succ, Nat.pow_zero] at h ⊢
        omega
      · rcases valU_uintF f (n / 128) (by rw [Nat.pow_succ] at h; omega) h0 with e | e
        · rw [e]; omega
        · right; rw [Nat.pow_succ]; omega
    · rw [uintF_small hn]
      simp only [valU]
      omega
theorem valU_uintB {n : Nat} (h : n < 18446744073709551616) : valU (uintB n) = n := by
  rcases valU_uintF 10 n (by omega) (by omega) with e | e
  · exact e
  · simp only [Nat.reducePow] at e; omega
theorem uintF_valU : ∀ (l : List Int) (c : Int) (f : Nat), Form l c → l.length ≤ f → uintF f (valU (l ++ [c])) = l ++ [c]
  | [], c, f, F, _ => by
    have h := F.last
    have e : valU [c] = c.toNat := by simp only [valU]; omega
    show uintF f (valU [c]) = [c]
    rw [e, uintF_small (by omega)]
    congr 1
    omega
  | d :: l, c, 0, _, h => by simp at h
  | d :: l, c, f + 1, F, h => by
    have hd := F.more d (by simp)
    have hc := F.last
    have F2 : Form l c := ⟨fun x hx => F.more x (by simp [hx]), F.last, fun _ => F.full (by simp)⟩
    have ih := uintF_valU l c f F2 (by simpa using h)
    have hpos : 1 ≤ valU (l ++ [c]) := by
      have := F.full (by simp)
      rw [valU_snoc]
      have h2 : 1 ≤ 128 ^ l.length * (c.toNat % 128) := Nat.mul_pos (Nat.pow_pos (by omega)) (by omega)
      omega
    show uintF (f + 1) (d.toNat % 128 + 128 * valU (l ++ [c])) = d :: (l ++ [c])
    have e1 : (d.toNat % 128 + 128 * valU (l ++ [c])) / 128 = valU (l ++ [c]) := by omega
    generalize valU (l ++ [c]) = m at *
    unfold uintF
    rw [if_pos (by omega), e1, ih]
    congr 1
    omega
theorem getD_mem_take {bs : List Int} {k j : Nat} (hj : j < k) (hk : k ≤ bs.length) : bs.getD j 0 ∈ bs.take k := by
  rw [List.getD_eq_getElem?_getD, List.getElem?_eq_getElem (by omega)]
  exact List.mem_take_iff_getElem.2 ⟨j, by omega, rfl⟩
/-- The bytes read so far all say that more follow. -/
def AllMore (bs : List Int) (k : Nat) : Prop := ∀ x ∈ bs.take k, 128 ≤ x ∧ x ≤ 255
theorem AllMore.next {bs : List Int} {k : Nat} (h : AllMore bs k) (hk : k < bs.length) (hx : okB bs) (hc : ¬ bs.getD k 0 < 128) : AllMore bs (k + 1) := by
  intro x hxm
  rw [take_snoc bs k hk] at hxm
  rcases List.mem_append.1 hxm with hxm | hxm
  · exact h x hxm
  · obtain rfl := List.mem_singleton.1 hxm
    have := hx.getD k
    omega
theorem same_good {bs : List Int} {k : Nat} (h : AllMore bs k) (hk : k < bs.length) (hk9 : k ≤ 9) (hx : okB bs) (hc : bs.getD k 0 < 128) (h0 : ¬ (bs.getD k 0 = 0 ∧ 0 < k)) : uintB (valU (bs.take (k + 1))) = bs.take (k + 1) := by
  have hb := hx.getD k
  rw [take_snoc bs k hk]
  refine uintF_valU _ _ 10 ⟨h, ⟨hb.1, hc⟩, fun hne => ?_⟩ (by rw [List.length_take]; omega)
  have : k ≠ 0 := fun e => hne (by rw [e]; rfl)
  omega
theorem same_zero {bs : List Int} {k n : Nat} (hn : n < 18446744073709551616) (hk : k < bs.length) (hc : bs.getD k 0 = 0) (h0 : 0 < k) : uintB n ≠ bs.take (k + 1) := by
  intro e
  obtain ⟨l, c, e2, F⟩ := uintB_form hn
  rw [e2, take_snoc bs k hk] at e
  obtain ⟨e3, e4⟩ := List.append_inj' e rfl
  have hl : l ≠ [] := by
    rw [e3]
    intro h
    have := congrArg List.length h
    rw [List.length_take, List.length_nil] at this
    omega
  have := F.full hl
  simp only [List.cons.injEq, and_true] at e4
  omega
theorem same_nine {bs : List Int} {n : Nat} (hn : n < 18446744073709551616) (hk : 9 < bs.length) (hc : 1 < bs.getD 9 0) (hc2 : bs.getD 9 0 < 128) : uintB n ≠ bs.take (9 + 1) := by
  intro e
  have hv := valU_uintB hn
  rw [e, take_snoc bs 9 hk, valU_snoc, List.length_take] at hv
  have h9 : min 9 bs.length = 9 := by omega
  rw [h9] at hv
  have h2 : 2 ≤ (bs.getD 9 0).toNat % 128 := by omega
  have := Nat.mul_le_mul_left (128 ^ 9) h2
  simp only [Nat.reducePow] at this hv
  omega
theorem or_any (a c : Int) (k : Nat) (h : 0 ≤ a ∧ a < 18446744073709551616) : ∃ m : Nat, m < 18446744073709551616 ∧ bits .or .u64 a (IntKind.u64.wrap (c % 128 * 2 ^ (7 * k))) = (m : Int) := by
  obtain ⟨n, rfl⟩ := Int.eq_ofNat_of_zero_le h.1
  rw [IntKind.wrap_u64]
  generalize c % 128 * 2 ^ (7 * k) = y
  obtain ⟨m, hm⟩ := Int.eq_ofNat_of_zero_le (show 0 ≤ y % 18446744073709551616 by omega)
  rw [hm, u64_or_nat _ _ (by omega) (by omega)]
  refine ⟨n ||| m, ?_, rfl⟩
  exact Nat.or_lt_two_pow (n := 64) (by omega) (by omega)
end Go.Proofs.Ytgkiedbefogklaa
