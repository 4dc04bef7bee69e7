/- What is proved: for every list of samples and every sample ms, behind them 400 samples ms bring the mean to ms and the timeout to at most ms + 8 (within its bounds); no condition beyond the kinds' bounds. -/
import Derived.Test.YtifophgaokoojaaPClockSettlesx2
namespace Go.Proofs.Ytifophgaokoojaa.Pure
open Go.RowKit Go.Proofs.Ytifophgaokoojaa.PClockSettles Go.Proofs.YtifophgaokoojaaW.PrintWords Go.Proofs.YtifophgaokoojaaW.PrintLast

theorem ClockSettles_anchored : wayfarerlaw09_anchored.f = some true := by decide +kernel
theorem ClockSettles_bounds (n : Int) (h : (Lit.int .u16 n).wf = true) : 0 ≤ n ∧ n ≤ 65535 := by
  simpa [Lit.wf, IntKind.min, IntKind.max, IntKind.bits, IntKind.signed] using h

/-- What an estimate may be. -/
def MayC (a : Bool) (m s : Int) : Prop := 0 ≤ m ∧ m ≤ 524280 ∧ 0 ≤ s ∧ s ≤ 262140 ∧ (a = false → m = 0 ∧ s = 0)

theorem may_of {a : Bool} {m s : Int} (h : MayC a m s) : clock_May.f a m s = some true := by
  obtain ⟨h0, h1, h2, h3, h4⟩ := h
  unfold clock_May.f
  cases a
  · obtain ⟨rfl, rfl⟩ := h4 rfl
    simp
  · rw [if_pos rfl, if_pos (by omega), if_pos h1, if_pos (by omega)]
    simp [h3]

/-- One sample behind another. -/
theorem sample_true {m s n : Int} (h : MayC true m s) (hn : 0 ≤ n ∧ n ≤ 65535) :
    ∃ m' s', clock_Sample.f true m s n = some (true, m', s', 0) ∧ MayC true m' s' ∧ m' = m + (n - m / 8) ∧ (n - m / 8 = 0 → s' = s - s / 4) := by
  have hm := may_of h
  obtain ⟨h0, h1, h2, h3, _⟩ := h
  unfold clock_Sample.f
  rw [hm]
  simp only [Option.bind_some, if_true]
  have w1 : wrap64 n = n := by unfold wrap64; omega
  have w2 : wrap64 (n - m / 8) = n - m / 8 := by unfold wrap64; omega
  have w3 : wrap64 (-(n - m / 8)) = -(n - m / 8) := by unfold wrap64; omega
  have w4 : wrap64 (m + (n - m / 8)) = m + (n - m / 8) := by unfold wrap64; omega
  have w5 : wrap64 (mx (n - m / 8) (-(n - m / 8)) - s / 4) = mx (n - m / 8) (-(n - m / 8)) - s / 4 := by unfold mx wrap64; omega
  have w6 : wrap64 (s + (mx (n - m / 8) (-(n - m / 8)) - s / 4)) = s + (mx (n - m / 8) (-(n - m / 8)) - s / 4) := by unfold mx wrap64; omega
  rw [w1, w2, w3, w4, w5, w6]
  refine ⟨_, _, rfl, ?_, rfl, ?_⟩
  · unfold mx MayC; simp only [Bool.true_eq_false, false_implies, and_true]; omega
  · unfold mx; omega

theorem sample_false {m s n : Int} (h : MayC false m s) (hn : 0 ≤ n ∧ n ≤ 65535) :
    clock_Sample.f false m s n = some (true, n * 8, n * 2, 0) ∧ MayC true (n * 8) (n * 2) := by
  have hm := may_of h
  unfold clock_Sample.f
  rw [hm]
  simp only [Option.bind_some, if_true, Bool.false_eq_true, if_false]
  have e : wrap64 n = n := by unfold wrap64; omega
  rw [e]
  refine ⟨by rw [show wrap64 (n * 8) = n * 8 by unfold wrap64; omega, show wrap64 (n * 2) = n * 2 by unfold wrap64; omega], ?_⟩
  unfold MayC
  simp only [Bool.true_eq_false, false_implies, and_true]
  omega

/-- From above, from below, and the spread: what is left behind so many rounds. -/
def above : Nat → Int
  | 0 => 524280
  | j + 1 => above j - above j / 8
def below' : Nat → Int
  | 0 => 524280
  | j + 1 => below' j - (below' j + 7) / 8
def spread : Nat → Int
  | 0 => 262140
  | j + 1 => spread j - spread j / 4

theorem above_end : above 199 ≤ 7 := by decide +kernel
theorem below_end : below' 199 ≤ 0 := by decide +kernel
theorem spread_end : spread 199 ≤ 3 := by decide +kernel
theorem above_late (i : Nat) : above (199 + i) ≤ 7 := by
  induction i with
  | zero => exact above_end
  | succ i ih => show above (199 + i) - above (199 + i) / 8 ≤ 7; omega
theorem below_late (i : Nat) : below' (199 + i) ≤ 0 := by
  induction i with
  | zero => exact below_end
  | succ i ih => show below' (199 + i) - (below' (199 + i) + 7) / 8 ≤ 0; omega

/-- Behind j rounds with the sample n. -/
def Late (n : Int) (j : Nat) (a : Bool) (m s : Int) : Prop :=
  MayC a m s ∧ (1 ≤ j → a = true ∧ m - 8 * n ≤ above (j - 1) ∧ 8 * n - m ≤ below' (j - 1) ∧ (200 ≤ j → s ≤ spread (j - 200)))

theorem late_step {n : Int} {j : Nat} {a : Bool} {m s : Int} (h : Late n j a m s) (hn : 0 ≤ n ∧ n ≤ 65535) :
    ∃ m' s', clock_Sample.f a m s n = some (true, m', s', 0) ∧ Late n (j + 1) true m' s' := by
  obtain ⟨hM, hL⟩ := h
  rcases Nat.eq_zero_or_pos j with rfl | hj
  · cases a
    · obtain ⟨e, hM'⟩ := sample_false hM hn
      refine ⟨_, _, e, hM', fun _ => ⟨rfl, ?_, ?_, fun h => absurd h (by omega)⟩⟩
      · show n * 8 - 8 * n ≤ above 0; simp only [above]; omega
      · show 8 * n - n * 8 ≤ below' 0; simp only [below']; omega
    · obtain ⟨m', s', e, hM', hm, _⟩ := sample_true hM hn
      refine ⟨_, _, e, hM', fun _ => ⟨rfl, ?_, ?_, fun h => absurd h (by omega)⟩⟩
      · show m' - 8 * n ≤ above 0; simp only [above]; unfold MayC at hM'; omega
      · show 8 * n - m' ≤ below' 0; simp only [below']; unfold MayC at hM'; omega
  · obtain ⟨rfl, h1, h2, h3⟩ := hL hj
    obtain ⟨m', s', e, hM', hm, hs⟩ := sample_true hM hn
    obtain ⟨i, rfl⟩ : ∃ i, j = i + 1 := ⟨j - 1, by omega⟩
    simp only [Nat.add_sub_cancel] at h1 h2
    refine ⟨_, _, e, hM', fun _ => ⟨rfl, ?_, ?_, ?_⟩⟩
    · show m' - 8 * n ≤ above i - above i / 8; omega
    · show 8 * n - m' ≤ below' i - (below' i + 7) / 8; omega
    · intro h
      rcases Nat.lt_or_ge i 199 with h4 | h4
      · obtain rfl : i = 198 := by omega
        show s' ≤ spread 0
        simp only [spread]; unfold MayC at hM'; omega
      · have h5 := h3 (by omega)
        have ha := above_late (i - 199)
        have hb := below_late (i - 199)
        rw [show 199 + (i - 199) = i by omega] at ha hb
        have hs' := hs (by omega)
        rw [hs', show i + 1 + 1 - 200 = (i + 1 - 200) + 1 by omega]
        show s - s / 4 ≤ spread (i + 1 - 200) - spread (i + 1 - 200) / 4
        omega

theorem wrap_add {i : Int} (h0 : 0 ≤ i) (h : i ≤ 140737488351232) : wrap64 (i + 1) = i + 1 := by unfold wrap64; omega

/-- Behind 400 rounds. -/
theorem settles_end {n : Int} {a : Bool} {m s : Int} (h : Late n 400 a m s) (hn : 0 ≤ n ∧ n ≤ 65535) (k : Nat) :
    wayfarerlaw09_ClockSettles.l1 (k + 1) n 400 a m s = some true := by
  obtain ⟨hM, hL⟩ := h
  obtain ⟨rfl, h1, h2, h3⟩ := hL (by omega)
  have h4 := h3 (by omega)
  clear hL h3
  have e0 : (400 : Nat) - 1 = 399 := rfl
  rw [e0] at h1 h2
  have e00 : (400 : Nat) - 200 = 200 := rfl
  rw [e00] at h4
  have ha : above 399 ≤ 7 := above_late 200
  have hb : below' 399 ≤ 0 := below_late 200
  have hs : spread 200 ≤ 3 := by have := spread_end; show spread 199 - spread 199 / 4 ≤ 3; omega
  have hm := may_of hM
  obtain ⟨m0, m1, s0, s1, _⟩ := hM
  simp only [wayfarerlaw09_ClockSettles.l1]
  rw [if_neg (by omega)]
  unfold clock_Timeout.f clock_bounded.f
  rw [hm, ClockSettles_anchored]
  simp only [Option.bind_some, if_true]
  have e1 : wrap64 (m / 8 + s) = m / 8 + s := by unfold wrap64; omega
  have e2 : Int.tdiv m 8 = m / 8 := Int.tdiv_eq_ediv_of_nonneg m0
  have e3 : wrap64 (m / 8) = m / 8 := by unfold wrap64; omega
  have e4 : wrap64 n = n := by unfold wrap64; omega
  have e5 : wrap64 (m / 8 - n) = m / 8 - n := by unfold wrap64; omega
  have e6 : wrap64 (n + 8) = n + 8 := by unfold wrap64; omega
  rw [e1, e2, e3, e4, e5, e6, if_pos (by omega), if_pos (by omega)]
  have : mx 50 (mn (m / 8 + s) 1000) ≤ mx 50 (mn 1000 (n + 8)) := by unfold mx mn; omega
  simp [this]

theorem settles_rounds {n : Int} (hn : 0 ≤ n ∧ n ≤ 65535) (d : Nat) : ∀ (k j : Nat) (a : Bool) (m s : Int), d < k → j + d = 400 → Late n j a m s →
    wayfarerlaw09_ClockSettles.l1 k n j a m s = some true := by
  induction d with
  | zero =>
    intro k j a m s hk hj h
    obtain ⟨k, rfl⟩ : ∃ m, k = m + 1 := ⟨k - 1, by omega⟩
    obtain rfl : j = 400 := by omega
    exact settles_end h hn k
  | succ d ih =>
    intro k j a m s hk hj h
    obtain ⟨k, rfl⟩ : ∃ m, k = m + 1 := ⟨k - 1, by omega⟩
    obtain ⟨m', s', e, h'⟩ := late_step h hn
    simp only [wayfarerlaw09_ClockSettles.l1]
    rw [if_pos (by omega), e]
    simp only [Option.bind_some]
    rw [wrap_add (by omega) (by omega)]
    exact ih k (j + 1) true m' s' (by omega) (by omega) h'

theorem any_step {n : Int} {a : Bool} {m s : Int} (h : MayC a m s) (hn : 0 ≤ n ∧ n ≤ 65535) : ∃ m' s', clock_Sample.f a m s n = some (true, m', s', 0) ∧ MayC true m' s' := by
  cases a
  · exact ⟨_, _, sample_false h hn⟩
  · obtain ⟨m', s', e, h', _⟩ := sample_true h hn
    exact ⟨m', s', e, h'⟩

theorem settles_list {n : Int} (hn : 0 ≤ n ∧ n ≤ 65535) (l : List Int) (hl : l.length ≤ 140737488351232) (hb : ∀ i, 0 ≤ rd l i ∧ rd l i ≤ 65535) (d : Nat) :
    ∀ (k i : Nat) (a : Bool) (m s : Int), d + 401 < k → i + d = l.length → MayC a m s → wayfarerlaw09_ClockSettles.l0 k l n i a m s = some true := by
  induction d with
  | zero =>
    intro k i a m s hk hi h
    obtain ⟨k, rfl⟩ : ∃ m, k = m + 1 := ⟨k - 1, by omega⟩
    simp only [wayfarerlaw09_ClockSettles.l0]
    rw [if_neg (by omega)]
    exact settles_rounds hn 400 k 0 a m s (by omega) rfl ⟨h, fun h => absurd h (by omega)⟩
  | succ d ih =>
    intro k i a m s hk hi h
    obtain ⟨k, rfl⟩ : ∃ m, k = m + 1 := ⟨k - 1, by omega⟩
    obtain ⟨m', s', e, h'⟩ := any_step h (hb i)
    simp only [wayfarerlaw09_ClockSettles.l0]
    rw [if_pos (by omega), if_pos (by omega), e]
    simp only [Option.bind_some]
    rw [wrap_add (by omega) (by omega)]
    exact ih k (i + 1) true m' s' (by omega) (by omega) h'

theorem ClockSettles : wayfarerlaw09_ClockSettles.Pure := by
  intro l a1 _ hl hx ha
  have hn := ClockSettles_bounds a1 ha
  refine ⟨l.length + 402, ?_⟩
  unfold wayfarerlaw09_ClockSettles.f clock_Start.f
  simp only [Option.bind_some]
  refine settles_list hn l (by omega) (fun i => ?_) l.length (l.length + 402) 0 false 0 0 (by omega) (by omega) ⟨by omega, by omega, by omega, by omega, fun _ => ⟨rfl, rfl⟩⟩
  unfold rd
  rw [List.getD_eq_getElem?_getD]
  cases e : l[i.toNat]? with
  | none => simp
  | some x => exact ClockSettles_bounds x (hx x (List.mem_of_getElem? e))

end Go.Proofs.Ytifophgaokoojaa.Pure
