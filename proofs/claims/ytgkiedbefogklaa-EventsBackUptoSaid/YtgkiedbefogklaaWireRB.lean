/- What is proved: the law WireFresh returns true when it is called; conditions: the slice reads as it is said to. -/
import Derived.Test.YtgkiedbefogklaaWireRA
import Derived.Test.YtgkiedbefogklaaWireU
set_option linter.unusedSimpArgs false
set_option linter.unusedVariables false
namespace Go.Proofs.Ytgkiedbefogklaa
open Go.RowKit
set_option maxRecDepth 100000
set_option maxHeartbeats 8000000
theorem readEv_nil {bs : List Int} (h0 : (readEvS bs).1 ≠ 0) : (readEvS bs).2 = [] := by
  unfold readEvS at h0 ⊢
  by_cases h1 : 65536 < bs.length
  · rw [if_pos h1]
  · rw [if_neg h1] at h0 ⊢
    by_cases h2 : (readS bs).2.2 ≠ 0
    · rw [if_pos h2]
    · rw [if_neg h2] at h0 ⊢
      by_cases h3 : 4096 < (readS bs).1
      · rw [if_pos h3]
      · rw [if_neg h3] at h0 ⊢
        by_cases h4 : (evsT (readS bs).1 (bs.drop (readS bs).2.1)).1 ≠ 0
        · rw [if_pos h4]
        · rw [if_neg h4] at h0 ⊢
          by_cases h5 : 0 < (evsT (readS bs).1 (bs.drop (readS bs).2.1)).2.2.length
          · rw [if_pos h5]
          · rw [if_neg h5] at h0
            exact absurd rfl h0
theorem mayS_len {e : Event} (h : mayS e = true) : e.bs.length ≤ 4096 := by
  unfold mayS mayB at h
  split at h
  · simp at h; omega
  · split at h
    · simp at h; simp [h]
    · split at h
      · simp at h; omega
      · split at h
        · simp at h; simp [h]
        · cases h
/-- Events that were read are few and short. -/
theorem readEv_few {bs : List Int} (hx : okB bs) : (readEvS bs).2.length ≤ 4096 ∧ ∀ e ∈ (readEvS bs).2, e.bs.length ≤ 4096 := by
  by_cases h : (readEvS bs).1 = 0
  · obtain ⟨h1, h2⟩ := readEv_forms hx h
    refine ⟨h2, fun e he => ?_⟩
    exact mayS_len ((writeEv_good (by rw [h1])).1 e he)
  · rw [readEv_nil h]
    exact ⟨by simp, by intro e he; cases he⟩
/-- What is left of events whose bytes are spoiled one by one. -/
structure FL (w1 : World) (k : Nat) (L : Value) (P : List HE) (W : World) : Prop where
  bel : Below w1.heap.size w1 W
  row : W.ownsRow w1.heap.size 48 5 L P.length (flatE P)
  ev : ∀ j p, k ≤ j → P[j]? = some p → EvP W w1.heap.size p
theorem FL.cell {w1 W : World} {k : Nat} {L : Value} {P : List HE} {p : HE} (h : FL w1 k L P W) (hp : P[k]? = some p) : ∃ g c, L = .slice (some ⟨g, 0, none⟩) P.length c ∧ P.length ≤ c ∧ g < W.heap.size ∧ W.cell? ⟨g, k * 5 + 1, none⟩ = some p.v := by
  have hi : k < P.length := (List.getElem?_eq_some_iff.1 hp).1
  obtain ⟨hfl, ⟨h1, h2⟩ | ⟨g, cap, cur, h1, hb, hh, h4, h5, h6, h7⟩⟩ := h.row
  · omega
  · refine ⟨g, cap, h1, h4, lt_of_heap hh, ?_⟩
    rw [cell_of_row _ _ _ _ _ _ hh, ← Array.getElem?_toList]
    have h8 := congrArg (fun l => l[k * 5 + 1]?) h7
    simp only [List.getElem?_take] at h8
    rw [if_pos (by omega), flatE_get P k 1 p hp (by omega)] at h8
    rw [h8]
    rfl
theorem FL.next {w1 W W' : World} {k : Nat} {L : Value} {P : List HE} {p : HE} (h : FL w1 k L P W) (hs : P.Pairwise Apart) (hp : P[k]? = some p) (hg : W.grownBy W' p.v.ownBlock) : FL w1 (k + 1) L P W' := by
  have hep := h.ev k p (Nat.le_refl _) hp
  refine ⟨h.bel.grown hg h.bel.size (fun q hq => (own_typed hep.own hq).1), ?_, fun j q hj hq => ?_⟩
  · refine owns_keep h.row fun b hb hl => hg.block b hl (fun e => ?_)
    obtain ⟨_, c1, h3⟩ := own_typed h.row hb
    obtain ⟨_, c2, h4⟩ := own_typed hep.own e.symm
    rw [h3] at h4
    simp at h4
  · refine (h.ev j q (by omega) hq).keep fun b _ hl hb => hg.block b hl (fun e => ?_)
    obtain ⟨hk1, hk2⟩ := List.getElem?_eq_some_iff.1 hp
    obtain ⟨hj1, hj2⟩ := List.getElem?_eq_some_iff.1 hq
    have := List.pairwise_iff_getElem.1 hs k j hk1 hj1 (by omega)
    rw [hk2, hj2] at this
    exact this b e.symm hb
end Go.Proofs.Ytgkiedbefogklaa
