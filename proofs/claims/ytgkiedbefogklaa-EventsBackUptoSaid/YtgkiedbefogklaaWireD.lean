/- What is proved: laws of numbers' forms as they are read; slices of bytes cut at a place; conditions: those typed. -/
import Derived.Test.YtgkiedbefogklaaWire6
import Derived.Test.YtgkiedbefogklaaSame
import Derived.Test.YtgkiedbefogklaaOrderPan
set_option linter.unusedSimpArgs false
set_option linter.unusedVariables false
namespace Go.Proofs.Ytgkiedbefogklaa
open Go.RowKit
set_option maxRecDepth 100000
set_option maxHeartbeats 4000000
theorem rdF_good {bs : List Int} (hx : okB bs) : ∀ (f k : Nat), f + k = 10 → AllMore bs k → (rdF f k bs).2.2 = 0 → 1 ≤ (rdF f k bs).2.1 ∧ (rdF f k bs).2.1 ≤ bs.length ∧ (rdF f k bs).1 < 18446744073709551616 ∧ uintB (rdF f k bs).1 = bs.take (rdF f k bs).2.1
  | 0, k, _, _, h => by simp [rdF] at h
  | f + 1, k, hfk, hm, h => by
    by_cases hk : k < bs.length
    · have hb := hx.getD k
      by_cases h9 : k = 9 ∧ 1 < bs.getD k 0
      · obtain ⟨rfl, h9⟩ := h9
        rw [rdF_nine f bs hk h9] at h
        simp at h
      · by_cases hc : bs.getD k 0 < 128
        · by_cases h0 : bs.getD k 0 = 0 ∧ 0 < k
          · rw [rdF_zero k f bs hk h0.1 h0.2] at h
            simp at h
          · rw [rdF_last k f bs hk hc h9 h0]
            refine ⟨by simp, by simp; omega, ?_, same_good hm hk (by omega) hx hc h0⟩
            show valU (bs.take (k + 1)) < _
            rw [take_snoc bs k hk, valU_snoc]
            have h1 := valU_lt (bs.take k)
            have h2 : (bs.take k).length = k := by rw [List.length_take]; omega
            rw [h2] at h1 ⊢
            rcases (by omega : k = 9 ∨ k ≤ 8) with rfl | hk8
            · have : (bs.getD 9 0).toNat % 128 ≤ 1 := by
                have : ¬ 1 < bs.getD 9 0 := fun h => h9 ⟨rfl, h⟩
                omega
              have h3 := Nat.mul_le_mul_left (128 ^ 9) this
              simp only [Nat.reducePow] at h1 h3 ⊢
              omega
            · have h4 : (bs.getD k 0).toNat % 128 ≤ 127 := by omega
              have h3 := Nat.mul_le_mul_left (128 ^ k) h4
              have h5 : 128 ^ k ≤ 128 ^ 8 := Nat.pow_le_pow_right (by omega) hk8
              simp only [Nat.reducePow] at h5
              omega
        · by_cases h9' : k = 9
          · subst h9'
            exact absurd (show 1 < bs.getD 9 0 by omega) (fun h => h9 ⟨rfl, h⟩)
          · rw [rdF_next k f bs hk hc h9'] at h ⊢
            exact rdF_good hx f (k + 1) (by omega) (hm.next hk hx hc) h
    · rw [rdF_end k f bs hk] at h
      simp at h
theorem readS_good {bs : List Int} (hx : okB bs) (h : (readS bs).2.2 = 0) : 1 ≤ (readS bs).2.1 ∧ (readS bs).2.1 ≤ bs.length ∧ (readS bs).1 < 18446744073709551616 ∧ uintB (readS bs).1 = bs.take (readS bs).2.1 :=
  rdF_good hx 10 0 rfl (by intro x hx; simp at hx) h
theorem readS_form {n : Nat} (hn : n < 18446744073709551616) (rest : List Int) : readS (uintB n ++ rest) = (n, (uintB n).length, 0) := by
  obtain ⟨l, c, e, F⟩ := uintB_form hn
  have hv := valU_uintB hn
  rw [e] at hv
  have hl9 : l.length ≤ 9 := by
    rcases Nat.lt_or_ge 9 l.length with h | h
    · exfalso
      have hc : 0 < c := F.full (fun h' => by rw [h'] at h; simp at h)
      rw [valU_snoc] at hv
      have h1 : 1 ≤ c.toNat % 128 := by have := F.last; omega
      have h2 := Nat.mul_le_mul_left (128 ^ l.length) h1
      have h3 : 128 ^ 10 ≤ 128 ^ l.length := Nat.pow_le_pow_right (by omega) h
      simp only [Nat.reducePow] at h3
      omega
    · exact h
  rw [e]
  obtain ⟨bs, hbs⟩ : ∃ bs, l ++ [c] ++ rest = bs := ⟨_, rfl⟩
  rw [hbs]
  have hlen : l.length < bs.length := by rw [← hbs]; simp
  have hget : ∀ k (hk : k < l.length), bs.getD k 0 = l[k] := fun k hk => by
    rw [← hbs, List.getD_eq_getElem?_getD, List.append_assoc, List.getElem?_append_left hk, List.getElem?_eq_getElem hk]
    rfl
  have hc : bs.getD l.length 0 = c := by
    rw [← hbs, List.getD_eq_getElem?_getD, List.append_assoc, List.getElem?_append_right (by omega), Nat.sub_self]
    rfl
  have htake : bs.take (l.length + 1) = l ++ [c] := by
    rw [← hbs]
    exact List.take_left' (by simp)
  have step : ∀ k, k ≤ l.length → rdF 10 0 bs = rdF (10 - k) k bs := by
    intro k hk
    induction k with
    | zero => rfl
    | succ k ih =>
      rw [ih (by omega)]
      have h1 : 10 - k = (10 - (k + 1)) + 1 := by omega
      rw [h1]
      have h2 := hget k (by omega)
      have h3 := F.more l[k] (List.getElem_mem _)
      exact rdF_next k _ bs (by omega) (by rw [h2]; omega) (by omega)
  unfold readS
  rw [step l.length (Nat.le_refl _)]
  obtain ⟨f, hf⟩ : ∃ f, 10 - l.length = f + 1 := ⟨9 - l.length, by omega⟩
  have hF := F.last
  rw [hf, rdF_last l.length f bs hlen (by rw [hc]; omega) (by
    rw [hc]
    rintro ⟨h1, h2⟩
    rw [valU_snoc, h1] at hv
    have h3 : 2 ≤ c.toNat % 128 := by omega
    have h4 := Nat.mul_le_mul_left (128 ^ 9) h3
    simp only [Nat.reducePow] at h4 hv
    omega) (by
    rw [hc]
    rintro ⟨h1, h2⟩
    have := F.full (fun h' => by rw [h'] at h2; simp at h2)
    omega), htake, hv]
  simp
def restA (A : Option Addr) (cap n : Nat) : Option Addr := if cap = n then A else A.map (·.add n)
theorem restB {w : World} {A : Option Addr} {l cap n : Nat} {xs : List Int} (h : BB w (.slice A l cap) xs) (hn : n ≤ xs.length) : BB w (.slice (restA A cap n) (l - n) (cap - n)) (xs.drop n) := by
  obtain ⟨h1, h2, A', cap', e, hr, h3, h4, h5⟩ := h
  simp only [Value.slice.injEq] at e
  obtain ⟨rfl, rfl, rfl⟩ := e
  have hl : (xs.drop n).length = xs.length - n := List.length_drop
  refine ⟨h1.drop n, by omega, _, _, by rw [hl], ?_, fun hA => ?_, by omega, by omega⟩
  · rw [hl]
    exact hr.drop hn h4
  · have : A = none ∨ cap = n := by
      unfold restA at hA
      split at hA
      · exact .inr (by assumption)
      · cases A
        · exact .inl rfl
        · simp at hA
    rcases this with h | h
    · have := h3 h; omega
    · omega
theorem run_rest (A : Option Addr) (l cap n : Nat) (hn : n ≤ l) (W : World) : (Instr.slice 24 (.slice A l cap) (some (.int .i64 n)) none none).run Try.prog W = .ok (.slice (restA A cap n) (l - n) (cap - n)) W := by
  obtain ⟨i, hi, hz⟩ : ∃ i, Try.prog.info? 5 = some i ∧ i.size = 1 := by
    obtain ⟨i, h, h2⟩ := Option.map_eq_some_iff.1 (show (Try.prog.info? 5).map (fun i => i.size) = some 1 by kernel_rfl)
    exact ⟨i, h, h2⟩
  rw [run_slice_from Try.prog 24 5 Try.underlying24 i hi hz A l cap n hn W]
  rfl
theorem exec_slice {P : Program} {o : Oper} {a : Act} {ty : TypeId} {x y : Operand} {p q v : Value} {w : World} (ho : o.op = .slice ty x (some y) none none) (hx : a.eval x = p) (hy : a.eval y = q) (h : (Instr.sliceAt ty p (some q) none none).run P w = .ok v w) : (execOp a.eval o).run P w = .ok (.value v) w := by
  unfold execOp
  simp only [ho, hx, hy, Option.map_some, Option.map_none, Sem.run_bind, h, Result.andThen_ok]
  rfl
theorem run_restAt (A : Option Addr) (l cap n : Nat) (hn : n ≤ l) (W : World) : (Instr.sliceAt 24 (.slice A l cap) (some (.int .i64 n)) none none).run Try.prog W = .ok (.slice (restA A cap n) (l - n) (cap - n)) W := by
  rw [← run_rest A l cap n hn W]
  simp [Instr.sliceAt, run_underlying Try.underlying24]
end Go.Proofs.Ytgkiedbefogklaa
