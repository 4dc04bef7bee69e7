/- What is proved: plain laws of the reference's parser: it goes beside the parser of vt; conditions: those typed. -/
import Derived.Test.YtecgipccippddaaVtB
set_option linter.unusedSimpArgs false
set_option linter.unusedVariables false
namespace Go.Proofs.Ytecgipccippddaa
open Go.RowKit
set_option maxRecDepth 100000
set_option maxHeartbeats 4000000
/-- A state of the reference's parser. -/
structure RS where
  st : Nat
  pv : Int
  mid : List Int
  ps : List Int
  many : Nat
  tx : List Int
  no : Bool
def freshR (n : Nat) : RS := ⟨n, 0, [], [], 0, [], false⟩
def gatherS (r : RS) (c : Int) : RS := if 2 ≤ r.mid.length then { r with no := true } else { r with mid := r.mid ++ [c] }
def seqB (r : RS) : RS := { r with no := r.no || decide (0 < r.mid.length) }
def seqZ (r : RS) : RS := if r.many = 0 then { r with many := 1, ps := [0] } else r
def seqD (r : RS) (c : Int) : RS :=
  if c = 59 then (if r.many + 1 ≤ 16 then { r with many := r.many + 1, ps := r.ps ++ [0] } else { r with many := r.many + 1 })
  else if r.many ≤ 16 then { r with ps := r.ps.set (r.many - 1) (min 9999 (10 * r.ps.getD (r.many - 1) 0 + c - 48)) } else r
def seqP (r : RS) (c : Int) : RS := if r.pv ≠ 0 ∨ 0 < r.many ∨ 0 < r.mid.length ∨ r.no = true then { r with no := true } else { r with pv := c }
def seqS (r : RS) (c : Int) : RS × List Ac :=
  if (48 ≤ c ∧ c ≤ 57) ∨ c = 59 then (seqD (seqZ (seqB r)) c, [])
  else if 60 ≤ c ∧ c ≤ 63 then (seqP r c, [])
  else if c = 58 then ({ r with no := true }, [])
  else if 32 ≤ c ∧ c < 48 then (gatherS r c, [])
  else if 64 ≤ c ∧ c < 127 then (freshR 0, bif r.no then [] else [⟨4, 0, r.pv, c, r.mid, r.ps, []⟩])
  else if 128 ≤ c then (freshR 0, [])
  else (r, [])
def innerS (r : RS) (c : Int) : RS × List Ac :=
  if 32 ≤ c ∧ c < 48 then (gatherS r c, [])
  else if 48 ≤ c ∧ c < 127 then (freshR 0, bif r.no then [] else [⟨3, 0, 0, c, r.mid, [], []⟩])
  else if 128 ≤ c then (freshR 0, [])
  else (r, [])
def rescapedS (r : RS) (c : Int) : RS × List Ac :=
  if c = 91 then (freshR 3, [])
  else if c = 93 then (freshR 4, [])
  else if c = 80 ∨ c = 88 ∨ c = 94 ∨ c = 95 then (freshR 5, [])
  else if 32 ≤ c ∧ c < 48 then ({ freshR 2 with mid := [c] }, [])
  else if 48 ≤ c ∧ c < 127 then (freshR 0, [⟨3, 0, 0, c, [], [], []⟩])
  else if 128 ≤ c then (freshR 0, [])
  else (r, [])
def rtakeS (r : RS) (c0 : Int) : RS × List Ac :=
  let c := if c0 < 0 then 127 else c0
  if c = 27 then (freshR 1, if r.st = 4 then [⟨5, 0, 0, 0, [], [], r.tx⟩] else [])
  else if c = 24 ∨ c = 26 then (freshR 0, [])
  else if c < 32 ∧ r.st ≠ 4 ∧ r.st ≠ 5 then (r, [⟨2, c, 0, 0, [], [], []⟩])
  else if r.st = 0 then (r, if (32 ≤ c ∧ c < 127) ∨ 160 ≤ c then [⟨1, c, 0, 0, [], [], []⟩] else [])
  else if r.st = 1 then rescapedS r c
  else if r.st = 2 then innerS r c
  else if r.st = 3 then seqS r c
  else if r.st = 4 then
    if c = 7 then (freshR 0, [⟨5, 0, 0, 0, [], [], r.tx⟩])
    else if 32 ≤ c ∧ c ≠ 127 ∧ r.tx.length < 256 then ({ r with tx := r.tx ++ [c] }, [])
    else (r, [])
  else (r, [])
/-- The two parsers go beside each other. -/
structure Sim (s : VS) (r : RS) (K : Nat) : Prop where
  st : s.st = r.st + 1
  mid : r.mid = s.mid
  ps : r.ps = s.ps
  tx : r.tx = s.tx
  no : r.no = s.bad
  pv : s.bad = false → r.pv = s.pv
  many : (s.more = false ∧ r.many = s.ps.length) ∨ (s.more = true ∧ s.ps.length = 16 ∧ 17 ≤ r.many)
  bound : r.many ≤ K
  esc : s.st = 2 → s = freshS 2 ∧ r = freshR 1
  osc : s.st = 5 → s.bad = false
def SimO (p : VS × List Ac) (q : RS × List Ac) (K : Nat) : Prop := p.2 = q.2 ∧ Sim p.1 q.1 K
theorem Sim.fresh (n K : Nat) : Sim (freshS (n + 1)) (freshR n) K := ⟨rfl, rfl, rfl, rfl, rfl, fun _ => rfl, .inl ⟨rfl, rfl⟩, Nat.zero_le _, fun h => by
  have h : n + 1 = 2 := h
  obtain rfl : n = 1 := by omega
  exact ⟨rfl, rfl⟩, fun _ => rfl⟩
theorem Sim.more {s : VS} {r : RS} {K K2 : Nat} (h : Sim s r K) (hk : K ≤ K2) : Sim s r K2 := ⟨h.st, h.mid, h.ps, h.tx, h.no, h.pv, h.many, Nat.le_trans h.bound hk, h.esc, h.osc⟩
theorem sim_add {s : VS} {r : RS} {K : Nat} (h : Sim s r K) (hs : s.st = 3 ∨ s.st = 4) (c : Int) : Sim (addS s c) (gatherS r c) K := by
  unfold addS gatherS
  rw [h.mid]
  split
  · exact ⟨h.st, rfl, h.ps, h.tx, rfl, fun e => by simp at e, h.many, h.bound, fun e => by dsimp only at e; omega, fun e => by dsimp only at e; omega⟩
  · exact ⟨h.st, by rw [← h.mid], h.ps, h.tx, h.no, h.pv, h.many, h.bound, fun e => by dsimp only at e; omega, fun e => by dsimp only at e; omega⟩
theorem sim_bad {s : VS} {r : RS} {K : Nat} (h : Sim s r K) (hs : s.st = 4) : Sim (badS s) (seqB r) K :=
  ⟨h.st, h.mid, h.ps, h.tx, by unfold badS seqB; dsimp only; rw [h.no, h.mid], fun e => h.pv (by unfold badS at e; simp at e; exact e.1), h.many, h.bound, fun e => by unfold badS at e; dsimp only at e; omega, fun e => by unfold badS at e; dsimp only at e; omega⟩
/-- The first parameter is there. -/
theorem sim_zero {s : VS} {r : RS} {K : Nat} (h : Sim s r K) (hK : 1 ≤ K) (hs : s.st = 4) : Sim { s with ps := ps0 s } (seqZ r) K := by
  have hm := h.many
  unfold ps0 seqZ
  by_cases h0 : s.ps.length = 0
  · have hr : r.many = 0 := by rcases hm with hm | hm <;> omega
    have hmo : s.more = false := by rcases hm with hm | hm
                                    · exact hm.1
                                    · omega
    rw [if_pos h0, if_pos hr]
    exact ⟨h.st, h.mid, rfl, h.tx, h.no, h.pv, .inl ⟨hmo, rfl⟩, hK, fun e => by dsimp only at e; omega, fun e => by dsimp only at e; omega⟩
  · have hr : ¬ r.many = 0 := by rcases hm with hm | hm <;> omega
    rw [if_neg h0, if_neg hr]
    exact ⟨h.st, h.mid, h.ps, h.tx, h.no, h.pv, h.many, h.bound, h.esc, h.osc⟩
theorem ps0_ps0 (s : VS) : ps0 { s with ps := ps0 s } = ps0 s := by
  unfold ps0
  dsimp only
  by_cases h : s.ps.length = 0
  · simp [h]
  · simp [h]
theorem digit0 (s : VS) (d : Int) : digitS s d = digitS { s with ps := ps0 s } d := by
  unfold digitS
  rw [ps0_ps0]
theorem another0 (s : VS) : anotherS s = anotherS { s with ps := ps0 s } := by
  unfold anotherS
  rw [ps0_ps0]
theorem ps0_pos {s : VS} (h : 0 < s.ps.length) : ps0 s = s.ps := by unfold ps0; rw [if_neg (by omega)]
theorem ps0_len (s : VS) : 0 < (ps0 s).length := by
  unfold ps0
  split
  · simp
  · omega
theorem sim_digit {s : VS} {r : RS} {K : Nat} (h : Sim s r K) (hs : s.st = 4) (hp : 0 < s.ps.length) (hl : s.ps.length ≤ 16) {c : Int} (hc : c ≠ 59) : Sim (digitS s (c - 48)) (seqD r c) K := by
  unfold digitS seqD
  rw [ps0_pos hp, if_neg hc]
  rcases h.many with ⟨h1, h2⟩ | ⟨h1, h2, h3⟩
  · rw [if_neg (by rw [h1]; decide), if_pos (by omega), h2, h.ps]
    refine ⟨h.st, h.mid, ?_, h.tx, h.no, h.pv, .inl ⟨h1, by dsimp only; rw [List.length_set]⟩, by have := h.bound; dsimp only; omega, fun e => by dsimp only at e; omega, fun e => by dsimp only at e; omega⟩
    dsimp only
    congr 1
    omega
  · rw [if_pos h1, if_neg (by omega)]
    exact ⟨h.st, h.mid, h.ps, h.tx, h.no, h.pv, .inr ⟨h1, h2, h3⟩, h.bound, fun e => by dsimp only at e; omega, fun e => by dsimp only at e; omega⟩
theorem sim_another {s : VS} {r : RS} {K : Nat} (h : Sim s r K) (hs : s.st = 4) (hp : 0 < s.ps.length) (hl : s.ps.length ≤ 16) : Sim (anotherS s) (seqD r 59) (K + 1) := by
  have hb := h.bound
  unfold anotherS seqD
  rw [ps0_pos hp, if_pos rfl]
  rcases h.many with ⟨h1, h2⟩ | ⟨h1, h2, h3⟩
  · by_cases h16 : 16 ≤ s.ps.length
    · rw [if_pos h16, if_neg (by omega)]
      exact ⟨h.st, h.mid, h.ps, h.tx, h.no, h.pv, .inr ⟨rfl, by dsimp only; omega, by dsimp only; omega⟩, by dsimp only; omega, fun e => by dsimp only at e; omega, fun e => by dsimp only at e; omega⟩
    · rw [if_neg h16, if_pos (by omega)]
      exact ⟨h.st, h.mid, by dsimp only; rw [h.ps], h.tx, h.no, h.pv, .inl ⟨h1, by simp; omega⟩, by dsimp only; omega, fun e => by dsimp only at e; omega, fun e => by dsimp only at e; omega⟩
  · rw [if_pos (by omega), if_neg (by omega)]
    exact ⟨h.st, h.mid, h.ps, h.tx, h.no, h.pv, .inr ⟨rfl, by dsimp only; omega, by dsimp only; omega⟩, by dsimp only; omega, fun e => by dsimp only at e; omega, fun e => by dsimp only at e; omega⟩
theorem sim_priv {s : VS} {r : RS} {K : Nat} (h : Sim s r K) (hs : s.st = 4) (c : Int) : Sim (privS s c) (seqP r c) K := by
  have hm : 0 < r.many ↔ 0 < s.ps.length := by rcases h.many with ⟨_, h2⟩ | ⟨_, h2, h3⟩ <;> omega
  unfold privS seqP
  by_cases hb : s.bad = true
  · rw [if_pos (.inr (.inr (.inr (by rw [h.no, hb]))))]
    exact ⟨h.st, h.mid, h.ps, h.tx, by simp [hb], fun e => by simp [hb] at e, h.many, h.bound, fun e => by dsimp only at e; omega, fun e => by dsimp only at e; omega⟩
  · have hb' : s.bad = false := by simpa using hb
    have hp := h.pv hb'
    by_cases hq : s.pv ≠ 0 ∨ 0 < s.ps.length ∨ 0 < s.mid.length
    · rw [if_pos (by rw [hp, hm, h.mid]; rcases hq with hq | hq | hq <;> simp [hq])]
      have hx : (decide (s.pv ≠ 0) || (decide (0 < s.mid.length) || decide (0 < s.ps.length))) = true := by rcases hq with hq | hq | hq <;> simp [hq]
      exact ⟨h.st, h.mid, h.ps, h.tx, by dsimp only; rw [hx]; simp, fun e => by dsimp only at e; rw [hx] at e; simp at e, h.many, h.bound, fun e => by dsimp only at e; omega, fun e => by dsimp only at e; omega⟩
    · simp only [not_or] at hq
      obtain ⟨q1, q2, q3⟩ := hq
      rw [if_neg (by rw [hp, hm, h.mid, h.no, hb']; simp only [not_or]; exact ⟨q1, q2, q3, by decide⟩)]
      have hx : (decide (s.pv ≠ 0) || (decide (0 < s.mid.length) || decide (0 < s.ps.length))) = false := by simp only [Bool.or_eq_false_iff, decide_eq_false_iff_not]; exact ⟨q1, q3, q2⟩
      exact ⟨h.st, h.mid, h.ps, h.tx, by dsimp only; rw [hx, h.no]; simp, fun _ => rfl, h.many, h.bound, fun e => by dsimp only at e; omega, fun e => by dsimp only at e; omega⟩
theorem sim_control {s : VS} {r : RS} {K : Nat} (h : Sim s r K) (ho : VOk s) (hs : s.st = 4) (c : Int) : SimO (controlS s c) (seqS r c) (K + 2) := by
  have hps := ps0_ok (badS_ok ho)
  have hz := sim_zero ((sim_bad h hs).more (Nat.le_succ K)) (by omega) (show (badS s).st = 4 from hs)
  have hl0 : (ps0 (badS s)).length ≤ 16 := hps.1
  unfold controlS seqS
  by_cases h1 : 48 ≤ c ∧ c ≤ 57
  · rw [if_pos h1, if_pos (.inl h1)]
    refine ⟨rfl, ?_⟩
    rw [digit0]
    exact (sim_digit hz hs (ps0_len _) hl0 (by omega)).more (Nat.le_succ _)
  · rw [if_neg h1]
    by_cases h2 : c = 59
    · subst h2
      rw [if_pos rfl, if_pos (.inr rfl)]
      refine ⟨rfl, ?_⟩
      rw [another0]
      exact sim_another hz hs (ps0_len _) hl0
    · rw [if_neg h2]
      by_cases h3 : c = 58
      · subst h3
        rw [if_pos rfl, if_neg (by omega), if_neg (by omega), if_pos rfl]
        exact ⟨rfl, h.st, h.mid, h.ps, h.tx, rfl, fun e => by simp at e, h.many, Nat.le_trans h.bound (by omega), fun e => by dsimp only at e; omega, fun e => by dsimp only at e; omega⟩
      · rw [if_neg h3, if_neg (show ¬ ((48 ≤ c ∧ c ≤ 57) ∨ c = 59) by omega)]
        by_cases h4 : 60 ≤ c ∧ c ≤ 63
        · rw [if_pos h4, if_pos h4]
          exact ⟨rfl, (sim_priv h hs c).more (by omega)⟩
        · rw [if_neg h4, if_neg h4, if_neg h3]
          by_cases h5 : 32 ≤ c ∧ c < 48
          · rw [if_pos h5, if_pos h5]
            exact ⟨rfl, (sim_add h (.inr hs) c).more (by omega)⟩
          · rw [if_neg h5, if_neg h5]
            by_cases h6 : 64 ≤ c ∧ c < 127
            · rw [if_pos h6, if_pos h6]
              refine ⟨?_, Sim.fresh 0 _⟩
              unfold endR
              dsimp only
              rw [h.no, h.mid, h.ps]
              cases hb : s.bad with
              | true => rfl
              | false => rw [h.pv hb]
            · rw [if_neg h6, if_neg h6]
              by_cases h7 : 128 ≤ c
              · rw [if_pos h7, if_pos h7]
                exact ⟨rfl, Sim.fresh 0 _⟩
              · rw [if_neg h7, if_neg h7]
                exact ⟨rfl, h.more (by omega)⟩
theorem sim_middle {s : VS} {r : RS} {K : Nat} (h : Sim s r K) (hs : s.st = 3) (c : Int) : SimO (escapedS s c) (innerS r c) (K + 2) := by
  unfold escapedS innerS
  have hse : { s with st := 3 } = s := by cases s; dsimp only at hs; rw [hs]
  by_cases h1 : 32 ≤ c ∧ c < 48
  · rw [if_pos h1, if_pos h1, hse]
    exact ⟨rfl, (sim_add h (.inl hs) c).more (by omega)⟩
  · rw [if_neg h1, if_neg h1, if_neg (by omega), if_neg (by omega), if_neg (by omega)]
    by_cases h2 : 48 ≤ c ∧ c < 127
    · rw [if_pos h2, if_pos h2]
      refine ⟨?_, Sim.fresh 0 _⟩
      unfold endR
      dsimp only
      rw [h.no, h.mid]
    · rw [if_neg h2, if_neg h2]
      by_cases h3 : 128 ≤ c
      · rw [if_pos h3, if_pos h3]
        exact ⟨rfl, Sim.fresh 0 _⟩
      · rw [if_neg h3, if_neg h3]
        exact ⟨rfl, h.more (by omega)⟩
theorem sim_escape (c : Int) (K : Nat) : SimO (escapedS (freshS 2) c) (rescapedS (freshR 1) c) (K + 2) := by
  unfold escapedS rescapedS
  by_cases h1 : c = 91
  · rw [if_neg (by omega), if_pos ⟨rfl, h1⟩, if_pos h1]
    exact ⟨rfl, Sim.fresh 3 _⟩
  · by_cases h2 : c = 93
    · rw [if_neg (by omega), if_neg (by omega), if_pos ⟨rfl, h2⟩, if_neg h1, if_pos h2]
      exact ⟨rfl, Sim.fresh 4 _⟩
    · by_cases h3 : c = 80 ∨ c = 88 ∨ c = 94 ∨ c = 95
      · rw [if_neg (by omega), if_neg (by omega), if_neg (by omega), if_pos ⟨rfl, h3⟩, if_neg h1, if_neg h2, if_pos h3]
        exact ⟨rfl, Sim.fresh 5 _⟩
      · by_cases h4 : 32 ≤ c ∧ c < 48
        · rw [if_pos h4, if_neg h1, if_neg h2, if_neg h3, if_pos h4]
          refine ⟨rfl, rfl, rfl, rfl, rfl, rfl, fun _ => rfl, .inl ⟨rfl, rfl⟩, Nat.zero_le _, fun e => ?_, fun e => ?_⟩
          · simp [addS, freshS] at e
          · simp [addS, freshS] at e
        · rw [if_neg h4, if_neg (by omega), if_neg (by omega), if_neg (by omega), if_neg h1, if_neg h2, if_neg h3, if_neg h4]
          by_cases h5 : 48 ≤ c ∧ c < 127
          · rw [if_pos h5, if_pos h5]
            exact ⟨rfl, Sim.fresh 0 _⟩
          · rw [if_neg h5, if_neg h5]
            by_cases h6 : 128 ≤ c
            · rw [if_pos h6, if_pos h6]
              exact ⟨rfl, Sim.fresh 0 _⟩
            · rw [if_neg h6, if_neg h6]
              exact ⟨rfl, Sim.fresh 1 _⟩
theorem sim_take {s : VS} {r : RS} {K : Nat} (h : Sim s r K) (ho : VOk s) (c0 : Int) : SimO (takeS s c0) (rtakeS r c0) (K + 2) := by
  have hst := h.st
  have hso := ho.st
  unfold takeS rtakeS
  dsimp only
  obtain ⟨c, hc⟩ : ∃ c, (if c0 < 0 then (127 : Int) else c0) = c := ⟨_, rfl⟩
  have hc0 : 0 ≤ c := by rw [← hc]; split <;> omega
  rw [hc]
  clear hc
  by_cases h1 : c = 27
  · subst h1
    rw [if_pos (.inl rfl), if_pos rfl, if_pos rfl]
    refine ⟨?_, Sim.fresh 1 _⟩
    by_cases h2 : s.st = 5
    · rw [if_pos ⟨h2, rfl⟩, if_pos (by omega), h.tx]
    · rw [if_neg (by omega), if_neg (by omega)]
  · by_cases h2 : c = 24 ∨ c = 26
    · rw [if_pos (show c = 27 ∨ c = 24 ∨ c = 26 by omega), if_neg h1, if_neg h1, if_pos h2]
      exact ⟨by rw [if_neg (show ¬ (s.st = 5 ∧ c = 27) by omega)], Sim.fresh 0 _⟩
    · rw [if_neg (show ¬ (c = 27 ∨ c = 24 ∨ c = 26) by omega), if_neg h1, if_neg h2]
      by_cases h3 : c < 32 ∧ s.st ≠ 5 ∧ s.st ≠ 6
      · rw [if_pos h3, if_pos (show c < 32 ∧ r.st ≠ 4 ∧ r.st ≠ 5 by omega)]
        exact ⟨rfl, h.more (by omega)⟩
      · rw [if_neg h3, if_neg (show ¬ (c < 32 ∧ r.st ≠ 4 ∧ r.st ≠ 5) by omega)]
        by_cases h4 : s.st = 1
        · rw [if_pos h4, if_pos (show r.st = 0 by omega)]
          refine ⟨?_, h.more (by omega)⟩
          dsimp only
          by_cases h5 : c < 127 ∨ 160 ≤ c
          · rw [if_pos h5, if_pos (by omega)]
          · rw [if_neg h5, if_neg (by omega)]
        · rw [if_neg h4, if_neg (show ¬ r.st = 0 by omega)]
          by_cases h5 : s.st = 2
          · rw [if_pos (.inl h5), if_pos (show r.st = 1 by omega), (h.esc h5).1, (h.esc h5).2]
            exact sim_escape c K
          · rw [if_neg (show ¬ r.st = 1 by omega)]
            by_cases h6 : s.st = 3
            · rw [if_pos (.inr h6), if_pos (show r.st = 2 by omega)]
              exact sim_middle h h6 c
            · rw [if_neg (show ¬ (s.st = 2 ∨ s.st = 3) by omega), if_neg (show ¬ r.st = 2 by omega)]
              by_cases h7 : s.st = 4
              · rw [if_pos h7, if_pos (show r.st = 3 by omega)]
                exact sim_control h ho h7 c
              · rw [if_neg h7, if_neg (show ¬ r.st = 3 by omega)]
                by_cases h8 : s.st = 5
                · rw [if_pos h8, if_pos (show r.st = 4 by omega)]
                  by_cases h9 : c = 7
                  · rw [if_pos h9, if_pos h9]
                    refine ⟨?_, Sim.fresh 0 _⟩
                    unfold endR
                    rw [h.osc h8, h.tx]
                    rfl
                  · rw [if_neg h9, if_neg h9, h.tx]
                    by_cases hA : 32 ≤ c ∧ c ≠ 127 ∧ s.tx.length < 256
                    · rw [if_pos hA, if_pos hA]
                      exact ⟨rfl, h.st, h.mid, h.ps, rfl, h.no, h.pv, h.many, Nat.le_trans h.bound (by omega), fun e => absurd e h5, h.osc⟩
                    · rw [if_neg hA, if_neg hA]
                      exact ⟨rfl, h.more (by omega)⟩
                · rw [if_neg h8, if_neg (show ¬ r.st = 4 by omega)]
                  exact ⟨rfl, h.more (by omega)⟩
end Go.Proofs.Ytecgipccippddaa
