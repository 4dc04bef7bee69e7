/- What is proved: what Change tells makes the style so, in plain numbers; conditions: the style may be. -/
import Derived.Test.YtlejmllacikmeaaCell10
set_option linter.unusedSimpArgs false
set_option linter.unusedVariables false
namespace Go.Proofs.Ytlejmllacikmeaa
open Go.RowKit
set_option maxRecDepth 100000
set_option maxHeartbeats 4000000
theorem aplS_append : ∀ (l1 l2 : List Int) (s : Sty), (∀ z ∈ l1, ¬ (z = 38 ∨ z = 48)) → aplS s (l1 ++ l2) = aplS (aplS s l1) l2
  | [], l2, s, _ => rfl
  | n :: ps, l2, s, h => by
    have hn := h n (List.mem_cons_self ..)
    have ih := fun s => aplS_append ps l2 s (fun z hz => h z (List.mem_cons_of_mem _ hz))
    rw [List.cons_append]
    by_cases h0 : n = 0
    · subst h0
      rw [apl_zero, apl_zero, ih]
    · rw [apl_step h0 hn, apl_step h0 hn, ih]
theorem flags_apl (b : Nat) (hb : b < 256) : aplS plainS (flagsL b 8) = ⟨-1, -1, b⟩ := by
  have key : ∀ b : Fin 256, (aplS plainS (flagsL b.val 8)).fg = -1 ∧ (aplS plainS (flagsL b.val 8)).bg = -1 ∧ (aplS plainS (flagsL b.val 8)).b = b.val := by decide +kernel
  obtain ⟨h1, h2, h3⟩ := key ⟨b, hb⟩
  revert h1 h2 h3
  generalize aplS plainS (flagsL b 8) = x
  obtain ⟨a, c, d⟩ := x
  rintro rfl rfl rfl
  rfl
theorem onT_b (i : Nat) : 1 ≤ onT i ∧ onT i ≤ 9 := by
  unfold onT
  split; omega; split; omega; split; omega; split; omega; split; omega; split; omega; split; omega; omega
theorem flags_b (b : Nat) : ∀ k, ∀ z ∈ flagsL b k, 1 ≤ z ∧ z ≤ 9
  | 0, z, hz => by simp [flagsL] at hz
  | k + 1, z, hz => by
    unfold flagsL at hz
    split at hz
    · rcases List.mem_append.1 hz with h | h
      · exact flags_b b k z h
      · obtain rfl := List.mem_singleton.1 h
        exact onT_b k
    · exact flags_b b k z hz
theorem says_fg {s : Sty} {c : Int} (hc : -1 ≤ c ∧ c ≤ 255) (h1 : s.fg = -1) (l : List Int) : aplS s (saysS c 30 ++ l) = aplS ⟨c, s.bg, s.b⟩ l := by
  unfold saysS
  by_cases e1 : c = -1
  · rw [if_pos e1, e1, ← h1]
    rfl
  · rw [if_neg e1]
    by_cases e2 : c < 8
    · rw [if_pos e2]
      show aplS s ((30 + c) :: l) = _
      rw [apl_step (by omega) (by omega)]
      unfold stepP
      rw [colF_a (by omega), colF_no (by omega) (by omega) (by omega), flB_other (by omega) (by omega) 8 (by omega), show (30 : Int) + c - 30 = c by omega]
      rfl
    · rw [if_neg e2]
      by_cases e3 : c < 16
      · rw [if_pos e3]
        show aplS s ((30 + 52 + c) :: l) = _
        rw [apl_step (by omega) (by omega)]
        unfold stepP
        rw [colF_b (by omega), colF_no (by omega) (by omega) (by omega), flB_other (by omega) (by omega) 8 (by omega), show (30 : Int) + 52 + c - 30 - 52 = c by omega]
        rfl
      · rw [if_neg e3]
        show aplS s ((38 : Int) :: 5 :: c :: l) = _
        rw [apl_col5 (.inl rfl) (by simp) rfl]
        show aplS (if 0 ≤ c ∧ c ≤ 255 then (if (38 : Int) = 48 then (⟨s.fg, c, s.b⟩ : Sty) else ⟨c, s.bg, s.b⟩) else s) l = _
        rw [if_pos ⟨by omega, by omega⟩, if_neg (by decide)]
theorem says_bg {s : Sty} {c : Int} (hc : -1 ≤ c ∧ c ≤ 255) (h1 : s.bg = -1) (l : List Int) : aplS s (saysS c 40 ++ l) = aplS ⟨s.fg, c, s.b⟩ l := by
  unfold saysS
  by_cases e1 : c = -1
  · rw [if_pos e1, e1, ← h1]
    rfl
  · rw [if_neg e1]
    by_cases e2 : c < 8
    · rw [if_pos e2]
      show aplS s ((40 + c) :: l) = _
      rw [apl_step (by omega) (by omega)]
      unfold stepP
      rw [colF_no (by omega) (by omega) (by omega), colF_a (by omega), flB_other (by omega) (by omega) 8 (by omega), show (40 : Int) + c - 40 = c by omega]
      rfl
    · rw [if_neg e2]
      by_cases e3 : c < 16
      · rw [if_pos e3]
        show aplS s ((40 + 52 + c) :: l) = _
        rw [apl_step (by omega) (by omega)]
        unfold stepP
        rw [colF_no (by omega) (by omega) (by omega), colF_b (by omega), flB_other (by omega) (by omega) 8 (by omega), show (40 : Int) + 52 + c - 40 - 52 = c by omega]
        rfl
      · rw [if_neg e3]
        show aplS s ((40 + 8 : Int) :: 5 :: c :: l) = _
        rw [show (40 : Int) + 8 = 48 by omega, apl_col5 (.inr rfl) (by simp) rfl]
        show aplS (if 0 ≤ c ∧ c ≤ 255 then (if (48 : Int) = 48 then (⟨s.fg, c, s.b⟩ : Sty) else ⟨c, s.bg, s.b⟩) else s) l = _
        rw [if_pos ⟨by omega, by omega⟩, if_pos rfl]
theorem change_makes (s t : Sty) (ht : t.b < 256) (hm : maySt t = true) : applyS s (chgL t) = t := by
  have hc : (-1 ≤ t.fg ∧ t.fg ≤ 255) ∧ (-1 ≤ t.bg ∧ t.bg ≤ 255) := by
    simp only [maySt, colB, Bool.and_eq_true, decide_eq_true_eq] at hm
    exact hm
  unfold applyS
  rw [if_neg (by simp [chgL])]
  unfold chgL
  rw [List.append_assoc, List.cons_append, apl_zero, aplS_append _ _ _ (fun z hz => by have := flags_b _ _ z hz; omega), flags_apl _ ht, says_fg hc.1 rfl]
  have e := says_bg (s := ⟨t.fg, -1, t.b⟩) hc.2 rfl []
  rw [List.append_nil] at e
  rw [e]
  rfl
theorem chgL_b (t : Sty) (hm : maySt t = true) : (∀ z ∈ chgL t, 0 ≤ z ∧ z ≤ 255) ∧ (chgL t).length ≤ 15 ∧ 0 < (chgL t).length := by
  have hc : (-1 ≤ t.fg ∧ t.fg ≤ 255) ∧ (-1 ≤ t.bg ∧ t.bg ≤ 255) := by
    simp only [maySt, colB, Bool.and_eq_true, decide_eq_true_eq] at hm
    exact hm
  have says_b : ∀ c k : Int, -1 ≤ c ∧ c ≤ 255 → (k = 30 ∨ k = 40) → ∀ z ∈ saysS c k, 0 ≤ z ∧ z ≤ 255 := by
    intro c k h1 h2 z hz
    unfold saysS at hz
    split at hz
    · cases hz
    · split at hz
      · obtain rfl := List.mem_singleton.1 hz; omega
      · split at hz
        · obtain rfl := List.mem_singleton.1 hz; omega
        · simp only [List.mem_cons, List.not_mem_nil, or_false] at hz
          rcases hz with rfl | rfl | rfl <;> omega
  refine ⟨fun z hz => ?_, ?_, by simp [chgL]⟩
  · unfold chgL at hz
    rcases List.mem_append.1 hz with h | h
    · rcases List.mem_append.1 h with h | h
      · rcases List.mem_cons.1 h with rfl | h
        · omega
        · have := flags_b _ _ z h; omega
      · exact says_b _ _ hc.1 (.inl rfl) z h
    · exact says_b _ _ hc.2 (.inr rfl) z h
  · have a1 := flagsL_len t.b 8
    have a2 := saysS_len t.fg 30
    have a3 := saysS_len t.bg 40
    unfold chgL
    simp only [List.length_append, List.length_cons]
    omega
end Go.Proofs.Ytlejmllacikmeaa
