/- What is proved: what Put of a network does when it is called; conditions: the network is there as it is said to be, what is put is not of its own memory. -/
import Derived.Test.YthebhbcfacoknaaNet4
import Derived.Test.YthebhbcfacoknaaEff
import Derived.StillTailTactics
set_option linter.unusedSimpArgs false
set_option linter.unusedVariables false
namespace Go.Proofs.Ythebhbcfacoknaa
open Go.RowKit
open Go.Maps (Keyed)
set_option maxRecDepth 100000
set_option maxHeartbeats 2000000
/-- What a network's calls may leave changed: its own blocks, marks 1 to 4, alone. -/
structure Fr (lab : Nat → Nat) (w w' : World) : Prop where
  os : w'.os = w.os
  tape : w'.tape = w.tape
  output : w'.output = w.output
  size : w.heap.size ≤ w'.heap.size
  block : ∀ g, g < w.heap.size → lab g = 0 ∨ 5 ≤ lab g → w'.heap[g]? = w.heap[g]?
theorem Fr.refl (lab : Nat → Nat) (w : World) : Fr lab w w := ⟨rfl, rfl, rfl, Nat.le_refl _, fun _ _ _ => rfl⟩
theorem Fr.trans {lab lab1 : Nat → Nat} {w w1 w2 : World} (h : Fr lab w w1) (hl : ∀ g, g < w.heap.size → lab1 g = lab g) (k : Fr lab1 w1 w2) : Fr lab w w2 :=
  ⟨k.os.trans h.os, k.tape.trans h.tape, k.output.trans h.output, Nat.le_trans h.size k.size, fun g hg hm => (k.block g (Nat.lt_of_lt_of_le hg h.size) (by rw [hl g hg]; exact hm)).trans (h.block g hg hm)⟩
theorem Fr.below {lab : Nat → Nat} {w w1 w2 : World} (h : Fr lab w w1) (k : Below w1.heap.size w1 w2) : Fr lab w w2 :=
  ⟨k.os.trans h.os, k.tape.trans h.tape, k.output.trans h.output, Nat.le_trans h.size k.size, fun g hg hm => (k.block g (Nat.lt_of_lt_of_le hg h.size)).trans (h.block g hg hm)⟩
/-- Slices of bytes that are read, none of them of the network's memory. -/
def LR (w : World) (lab : Nat → Nat) (v : Value) (L : List (List Int)) : Prop :=
  ∃ A cap, v = .slice A L.length cap ∧ L.length ≤ 140737488355328 ∧ ∀ i, i < L.length → ∃ b off u, A = some ⟨b, off, none⟩ ∧ lab b = 0 ∧ w.cell? ⟨b, off + i, none⟩ = some u ∧ BB w u (L.getD i []) ∧ ∀ g, 0 < (L.getD i []).length → u.ownBlock = some g → lab g = 0
theorem LR.keep {w w1 : World} {lab lab1 : Nat → Nat} {v : Value} {L : List (List Int)} (h : LR w lab v L) (hk : ∀ g, g < w.heap.size → lab g = 0 → w1.heap[g]? = w.heap[g]?) (hl : ∀ g, g < w.heap.size → lab1 g = lab g) : LR w1 lab1 v L := by
  obtain ⟨A, cap, rfl, h0, h⟩ := h
  refine ⟨A, cap, rfl, h0, fun i hi => ?_⟩
  obtain ⟨b, off, u, rfl, hb, hc, hu, hg⟩ := h i hi
  have hlt := block_lt_of_cell hc
  exact ⟨b, off, u, rfl, (hl b hlt).trans hb, (World.cell?_of_block (hk b hlt hb)).trans hc, hu.keep fun g h0 hg' hlt => hk g hlt (hg g h0 hg'), fun g h0 hg' => (hl g (hu.lt h0 hg')).trans (hg g h0 hg')⟩
def NS.add (s : NS) (sd : Int) (L : List (List Int)) : NS := if sd = 1 then { s with l0 := s.l0 ++ L } else if sd = 2 then { s with l1 := s.l1 ++ L } else s
theorem mem0 (s : NS) (xs : List Int) (s1 : Int) (x1 : List Int) : (if s1 = 1 ∧ x1 = xs then true else s.mem s1 x1) = ({ s with l0 := s.l0 ++ [xs] } : NS).mem s1 x1 := by
  unfold NS.mem
  by_cases h1 : s1 = 1
  · by_cases h2 : x1 = xs <;> simp [h1, h2]
  · simp [h1]
theorem mem1 (s : NS) (xs : List Int) (s1 : Int) (x1 : List Int) : (if s1 = 2 ∧ x1 = xs then true else s.mem s1 x1) = ({ s with l1 := s.l1 ++ [xs] } : NS).mem s1 x1 := by
  unfold NS.mem
  by_cases h1 : s1 = 2
  · by_cases h2 : x1 = xs <;> simp [h1, h2]
  · simp [h1]
theorem push0 {wr w4 w5 : World} {S : Nat → Prop} {γ : Gh} {lab : Nat → Nat} {N M : Nat} {s : NS} {v0 v1 v u : Value} {vs : List Value} {xs : List Int}
    (h1 : lab N = 1) (h2 : lab M = 2) (hN : wr.heap[N]? = some (.cells #[v0, v1, .int .i64 s.n0, .int .i64 s.n1, .map (some M)] 58 (0, 0))) (hvs : vs.length = s.l0.length) (hl : ∀ b, v0.ownBlock = some b → lab b = 3) (hl' : ∀ b, v0.ownBlock = some b → b < wr.heap.size)
    (hi : ∀ i, i < s.l0.length → BB wr (vs.getD i undef) (s.l0.getD i []) ∧ ∀ b, 0 < (s.l0.getD i []).length → (vs.getD i undef).ownBlock = some b → lab b = 5)
    (h5 : Rows_ wr lab 4 5 v1 s.l1) (hM : M < wr.heap.size) (h7 : s.n0 ≤ s.l0.length) (h8 : s.n1 ≤ s.l1.length) (hS : ∀ g, S g → g = N ∨ v0.ownBlock = some g) (hI : Inv wr S γ w4) (hx : okB xs) (hxl : xs.length ≤ 140737488355328)
    (g0 : γ 0 = some (N, .cells #[u, v1, .int .i64 s.n0, .int .i64 s.n1, .map (some M)] 58 (0, 0))) (g1 : OwX 25 1 u (γ 1) (s.l0.length + 1) (vs ++ [v])) (g2 : OwX 5 1 v (γ 2) xs.length (xs.map (Value.int .u8))) (g2n : ∀ g ob, γ 2 = some (g, ob) → wr.heap.size ≤ g)
    (he5 : EV w5 M (s.l0.length + 1 + s.l1.length) ({ s with l0 := s.l0 ++ [xs] } : NS).mem) (hg5 : w4.grownBy w5 (some M)) :
    ∃ lab', (∀ b, b < wr.heap.size → lab' b = lab b) ∧ Net w5 lab' N { s with l0 := s.l0 ++ [xs] } ∧ Fr lab wr w5 := by
  have hNlt : N < wr.heap.size := (Array.getElem?_eq_some_iff.1 hN).1
  have z4 := hI.size
  have z5 := hg5.size
  have hNM : N ≠ M := by intro e; rw [e] at h1; omega
  have old : ∀ b, b < wr.heap.size → lab b ≠ 1 → lab b ≠ 2 → lab b ≠ 3 → w5.heap[b]? = wr.heap[b]? := fun b hb n1 n2 n3 => by
    refine (hg5.block b (by omega) (fun e => n2 (by injection e with e; rw [e, h2]))).trans (hI.far b hb fun hs => ?_)
    rcases hS b hs with e | e
    · exact n1 (by rw [e]; exact h1)
    · exact n3 (hl b e)
  have at_ : ∀ t b ob, γ t = some (b, ob) → b ≠ M → w5.heap[b]? = some ob := fun t b ob ht hb =>
    (hg5.block b (lt_of_heap (hI.here t b ob ht).1) (fun e => hb (by injection e))).trans (hI.here t b ob ht).1
  have mM : ∀ t b ob, γ t = some (b, ob) → b ≠ M := fun t b ob ht e => by
    have := (hI.here t b ob ht).2 (by rw [e]; exact hM)
    rcases hS b this with h | h
    · exact hNM (by rw [← h, e])
    · have := hl b h; rw [e] at this; omega
  have b1 : ∀ b, u.ownBlock = some b → ∃ ob, γ 1 = some (b, ob) := fun b hb => by
    rw [g1.block] at hb
    match hq : γ 1, hb with
    | some (g', o'), hb => simp only [Option.map_some, Option.some.injEq] at hb; exact ⟨o', by rw [hb]⟩
    | none, hb => simp at hb
  have b2 : ∀ b, v.ownBlock = some b → ∃ ob, γ 2 = some (b, ob) := fun b hb => by
    rw [g2.block] at hb
    match hq : γ 2, hb with
    | some (g', o'), hb => simp only [Option.map_some, Option.some.injEq] at hb; exact ⟨o', by rw [hb]⟩
    | none, hb => simp at hb
  have o1 : w5.ownsRow 0 25 1 u (s.l0.length + 1) (vs ++ [v]) := g1.owns fun g ob hg => ⟨Nat.zero_le _, at_ 1 g ob hg (mM 1 g ob hg)⟩
  have o2 : OwB w5 wr.heap.size v xs := g2.owns fun g ob hg => ⟨g2n g ob hg, at_ 2 g ob hg (mM 2 g ob hg)⟩
  refine ⟨fun b => if b < wr.heap.size then lab b else if v.ownBlock = some b then 5 else if u.ownBlock = some b then 3 else 0, fun b hb => if_pos hb, ?_, ?_⟩
  · refine ⟨u, v1, M, ?_, ?_, at_ 0 N _ g0 hNM, ⟨vs ++ [v], by simp [hvs], ?own, ?lab, ?inner⟩, ?oth, ?ev, ?_, ?_⟩
    case ev => exact he5.to (by simp <;> omega) (fun _ _ => rfl)
    case own =>
      have : (s.l0 ++ [xs]).length = s.l0.length + 1 := by simp
      rw [this]
      exact o1
    case lab =>
      intro b hb
      obtain ⟨ob, hb1⟩ := b1 b hb
      show (if b < wr.heap.size then lab b else if v.ownBlock = some b then 5 else if u.ownBlock = some b then 3 else 0) = _
      by_cases hlt : b < wr.heap.size
      · rw [if_pos hlt]
        rcases hS b ((hI.here 1 b ob hb1).2 hlt) with e | e
        · exact absurd e (fun e => hI.apart 1 0 b N ob _ hb1 g0 (by decide) e)
        · exact hl b e
      · rw [if_neg hlt, if_neg (fun e2 => ?_), if_pos hb]
        obtain ⟨ob2, hb2⟩ := b2 b e2
        exact hI.apart 1 2 b b ob ob2 hb1 hb2 (by decide) rfl
    case inner =>
      intro i hi2
      have hi2 : i < s.l0.length + 1 := by simpa using hi2
      by_cases hil : i < s.l0.length
      · have e1 : (vs ++ [v]).getD i undef = vs.getD i undef := by rw [List.getD_eq_getElem?_getD, List.getD_eq_getElem?_getD, List.getElem?_append_left (by omega)]
        have e2 : (s.l0 ++ [xs]).getD i [] = s.l0.getD i [] := by rw [List.getD_eq_getElem?_getD, List.getD_eq_getElem?_getD, List.getElem?_append_left (by omega)]
        rw [e1, e2]
        obtain ⟨hB, hL⟩ := hi i hil
        refine ⟨hB.keep fun b h0 hb hlt => ?_, fun b h0 hb => ?_⟩
        · have := hL b h0 hb
          exact old b hlt (by omega) (by omega) (by omega)
        · have hlt := hB.lt h0 hb
          show (if b < wr.heap.size then lab b else _) = _
          rw [if_pos hlt]
          exact hL b h0 hb
      · have hie : i = s.l0.length := by omega
        subst hie
        have e1 : (vs ++ [v]).getD s.l0.length undef = v := by rw [List.getD_eq_getElem?_getD, ← hvs]; simp
        have e2 : (s.l0 ++ [xs]).getD s.l0.length [] = xs := by rw [List.getD_eq_getElem?_getD]; simp
        rw [e1, e2]
        refine ⟨o2.rd hx hxl, fun b h0 hb => ?_⟩
        obtain ⟨ob, hb2⟩ := b2 b hb
        show (if b < wr.heap.size then lab b else if v.ownBlock = some b then 5 else _) = _
        rw [if_neg (by have := g2n b ob hb2; omega), if_pos hb]
    case oth => exact h5.keep (fun b hb hm => old b hb (by omega) (by omega) (by omega)) (fun b hb => if_pos hb)
    · show (if N < wr.heap.size then lab N else _) = _
      rw [if_pos hNlt]
      exact h1
    · show (if M < wr.heap.size then lab M else _) = _
      rw [if_pos hM]
      exact h2
    · simp <;> omega
    · simp <;> omega
  · exact ⟨hg5.os.trans hI.os, hg5.tape.trans hI.tape, hg5.output.trans hI.output, by omega, fun b hb hm => old b hb (by omega) (by omega) (by omega)⟩
theorem push1 {wr w4 w5 : World} {S : Nat → Prop} {γ : Gh} {lab : Nat → Nat} {N M : Nat} {s : NS} {v0 v1 v u : Value} {vs : List Value} {xs : List Int}
    (h1 : lab N = 1) (h2 : lab M = 2) (hN : wr.heap[N]? = some (.cells #[v0, v1, .int .i64 s.n0, .int .i64 s.n1, .map (some M)] 58 (0, 0))) (hvs : vs.length = s.l1.length) (hl : ∀ b, v1.ownBlock = some b → lab b = 4) (hl' : ∀ b, v1.ownBlock = some b → b < wr.heap.size)
    (hi : ∀ i, i < s.l1.length → BB wr (vs.getD i undef) (s.l1.getD i []) ∧ ∀ b, 0 < (s.l1.getD i []).length → (vs.getD i undef).ownBlock = some b → lab b = 5)
    (h5 : Rows_ wr lab 3 5 v0 s.l0) (hM : M < wr.heap.size) (h7 : s.n0 ≤ s.l0.length) (h8 : s.n1 ≤ s.l1.length) (hS : ∀ g, S g → g = N ∨ v1.ownBlock = some g) (hI : Inv wr S γ w4) (hx : okB xs) (hxl : xs.length ≤ 140737488355328)
    (g0 : γ 0 = some (N, .cells #[v0, u, .int .i64 s.n0, .int .i64 s.n1, .map (some M)] 58 (0, 0))) (g1 : OwX 25 1 u (γ 1) (s.l1.length + 1) (vs ++ [v])) (g2 : OwX 5 1 v (γ 2) xs.length (xs.map (Value.int .u8))) (g2n : ∀ g ob, γ 2 = some (g, ob) → wr.heap.size ≤ g)
    (he5 : EV w5 M (s.l0.length + (s.l1.length + 1)) ({ s with l1 := s.l1 ++ [xs] } : NS).mem) (hg5 : w4.grownBy w5 (some M)) :
    ∃ lab', (∀ b, b < wr.heap.size → lab' b = lab b) ∧ Net w5 lab' N { s with l1 := s.l1 ++ [xs] } ∧ Fr lab wr w5 := by
  have hNlt : N < wr.heap.size := (Array.getElem?_eq_some_iff.1 hN).1
  have z4 := hI.size
  have z5 := hg5.size
  have hNM : N ≠ M := by intro e; rw [e] at h1; omega
  have old : ∀ b, b < wr.heap.size → lab b ≠ 1 → lab b ≠ 2 → lab b ≠ 4 → w5.heap[b]? = wr.heap[b]? := fun b hb n1 n2 n3 => by
    refine (hg5.block b (by omega) (fun e => n2 (by injection e with e; rw [e, h2]))).trans (hI.far b hb fun hs => ?_)
    rcases hS b hs with e | e
    · exact n1 (by rw [e]; exact h1)
    · exact n3 (hl b e)
  have at_ : ∀ t b ob, γ t = some (b, ob) → b ≠ M → w5.heap[b]? = some ob := fun t b ob ht hb =>
    (hg5.block b (lt_of_heap (hI.here t b ob ht).1) (fun e => hb (by injection e))).trans (hI.here t b ob ht).1
  have mM : ∀ t b ob, γ t = some (b, ob) → b ≠ M := fun t b ob ht e => by
    have := (hI.here t b ob ht).2 (by rw [e]; exact hM)
    rcases hS b this with h | h
    · exact hNM (by rw [← h, e])
    · have := hl b h; rw [e] at this; omega
  have b1 : ∀ b, u.ownBlock = some b → ∃ ob, γ 1 = some (b, ob) := fun b hb => by
    rw [g1.block] at hb
    match hq : γ 1, hb with
    | some (g', o'), hb => simp only [Option.map_some, Option.some.injEq] at hb; exact ⟨o', by rw [hb]⟩
    | none, hb => simp at hb
  have b2 : ∀ b, v.ownBlock = some b → ∃ ob, γ 2 = some (b, ob) := fun b hb => by
    rw [g2.block] at hb
    match hq : γ 2, hb with
    | some (g', o'), hb => simp only [Option.map_some, Option.some.injEq] at hb; exact ⟨o', by rw [hb]⟩
    | none, hb => simp at hb
  have o1 : w5.ownsRow 0 25 1 u (s.l1.length + 1) (vs ++ [v]) := g1.owns fun g ob hg => ⟨Nat.zero_le _, at_ 1 g ob hg (mM 1 g ob hg)⟩
  have o2 : OwB w5 wr.heap.size v xs := g2.owns fun g ob hg => ⟨g2n g ob hg, at_ 2 g ob hg (mM 2 g ob hg)⟩
  refine ⟨fun b => if b < wr.heap.size then lab b else if v.ownBlock = some b then 5 else if u.ownBlock = some b then 4 else 0, fun b hb => if_pos hb, ?_, ?_⟩
  · refine ⟨v0, u, M, ?_, ?_, at_ 0 N _ g0 hNM, ?oth, ⟨vs ++ [v], by simp [hvs], ?own, ?lab, ?inner⟩, ?ev, ?_, ?_⟩
    case ev => exact he5.to (by simp <;> omega) (fun _ _ => rfl)
    case own =>
      have : (s.l1 ++ [xs]).length = s.l1.length + 1 := by simp
      rw [this]
      exact o1
    case lab =>
      intro b hb
      obtain ⟨ob, hb1⟩ := b1 b hb
      show (if b < wr.heap.size then lab b else if v.ownBlock = some b then 5 else if u.ownBlock = some b then 4 else 0) = _
      by_cases hlt : b < wr.heap.size
      · rw [if_pos hlt]
        rcases hS b ((hI.here 1 b ob hb1).2 hlt) with e | e
        · exact absurd e (fun e => hI.apart 1 0 b N ob _ hb1 g0 (by decide) e)
        · exact hl b e
      · rw [if_neg hlt, if_neg (fun e2 => ?_), if_pos hb]
        obtain ⟨ob2, hb2⟩ := b2 b e2
        exact hI.apart 1 2 b b ob ob2 hb1 hb2 (by decide) rfl
    case inner =>
      intro i hi2
      have hi2 : i < s.l1.length + 1 := by simpa using hi2
      by_cases hil : i < s.l1.length
      · have e1 : (vs ++ [v]).getD i undef = vs.getD i undef := by rw [List.getD_eq_getElem?_getD, List.getD_eq_getElem?_getD, List.getElem?_append_left (by omega)]
        have e2 : (s.l1 ++ [xs]).getD i [] = s.l1.getD i [] := by rw [List.getD_eq_getElem?_getD, List.getD_eq_getElem?_getD, List.getElem?_append_left (by omega)]
        rw [e1, e2]
        obtain ⟨hB, hL⟩ := hi i hil
        refine ⟨hB.keep fun b h0 hb hlt => ?_, fun b h0 hb => ?_⟩
        · have := hL b h0 hb
          exact old b hlt (by omega) (by omega) (by omega)
        · have hlt := hB.lt h0 hb
          show (if b < wr.heap.size then lab b else _) = _
          rw [if_pos hlt]
          exact hL b h0 hb
      · have hie : i = s.l1.length := by omega
        subst hie
        have e1 : (vs ++ [v]).getD s.l1.length undef = v := by rw [List.getD_eq_getElem?_getD, ← hvs]; simp
        have e2 : (s.l1 ++ [xs]).getD s.l1.length [] = xs := by rw [List.getD_eq_getElem?_getD]; simp
        rw [e1, e2]
        refine ⟨o2.rd hx hxl, fun b h0 hb => ?_⟩
        obtain ⟨ob, hb2⟩ := b2 b hb
        show (if b < wr.heap.size then lab b else if v.ownBlock = some b then 5 else _) = _
        rw [if_neg (by have := g2n b ob hb2; omega), if_pos hb]
    case oth => exact h5.keep (fun b hb hm => old b hb (by omega) (by omega) (by omega)) (fun b hb => if_pos hb)
    · show (if N < wr.heap.size then lab N else _) = _
      rw [if_pos hNlt]
      exact h1
    · show (if M < wr.heap.size then lab M else _) = _
      rw [if_pos hM]
      exact h2
    · simp <;> omega
    · simp <;> omega
  · exact ⟨hg5.os.trans hI.os, hg5.tape.trans hI.tape, hg5.output.trans hI.output, by omega, fun b hb hm => old b hb (by omega) (by omega) (by omega)⟩
theorem put_1 (lab : Nat → Nat) (N : Nat) (s : NS) (sd : Int) (l : Value) (K : List (List Int)) (w : World) (h : Net w lab N s) (hsd : sd = 1) (hl : LR w lab l K) (hn : (s.l0.length + s.l1.length + K.length) * 24 ≤ 140737488355328) :
    Calls Try.prog 8 #[.pointer (some ⟨N, 0, none⟩), .int .u8 sd, l] w fun e w' => e = .returned (.int .i64 0) ∧ ∃ lab', (∀ g, g < w.heap.size → lab' g = lab g) ∧ Net w' lab' N { s with l0 := s.l0 ++ K } ∧ Fr lab w w' := by
  subst hsd
  have HN := Lib.hid h
  have HL := Lib.hid hl
  obtain ⟨v0, v1, M, l1, l2, hN, h4, h5, h6, h7, h8⟩ := h
  (have c0 : w.cell? ⟨N, 0, none⟩ = some v0 := (cell_of_row w N 0 _ _ (0, 0) hN).trans rfl; have c1 : w.cell? ⟨N, 1, none⟩ = some v1 := (cell_of_row w N 1 _ _ (0, 0) hN).trans rfl; have c2 : w.cell? ⟨N, 2, none⟩ = some (.int .i64 s.n0) := (cell_of_row w N 2 _ _ (0, 0) hN).trans rfl; have c3 : w.cell? ⟨N, 3, none⟩ = some (.int .i64 s.n1) := (cell_of_row w N 3 _ _ (0, 0) hN).trans rfl; have c4 : w.cell? ⟨N, 4, none⟩ = some (.map (some M)) := (cell_of_row w N 4 _ _ (0, 0) hN).trans rfl)
  clear h4 h5 h6 h7 h8 hN c0 c1 c2 c3
  obtain ⟨A, cap, hv, hK, _⟩ := hl
  have q1 := map_eq M
  have q2 := map_gd M
  go_enter Try.func8, Try.ntmps8
  go_wp2_with fail
  refine (side_at N 1 M w (by omega) c4).mono ?_
  rintro e w1 ⟨rfl, rfl⟩
  have e2 : sideNo 1 = 0 := rfl
  rw [e2]
  have hl0 : l = .slice A K.length cap := hv
  subst hl0
  clear q1 q2 c4 l1 l2 v0 v1
  go_wp2_with fail
  go_loopw [26] (fun i wr => ∃ (k : Nat) (lab' : Nat → Nat), k ≤ K.length ∧ i = .int .i64 k ∧ Hid (∀ g, g < w.heap.size → lab' g = lab g) ∧ Hid (Net wr lab' N { s with l0 := s.l0 ++ K.take k }) ∧ Hid (Fr lab w wr)) (fun i _ => K.length - (intOf i).toNat)
  case atStart => exact ⟨0, lab, Nat.zero_le _, rfl, fun _ _ => rfl, by rw [List.take_zero, List.append_nil]; exact HN.out, Fr.refl _ _⟩
  case round =>
    obtain ⟨k, lab1, hk, rfl, HLB, HNr, HF⟩ := hrel
    by_cases hlt : k < K.length
    · have hLr := HL.out.keep (lab1 := lab1) (w1 := wr) (fun g hg hm => HF.out.block g hg (.inl hm)) HLB.out
      obtain ⟨A', cap', e', _, hi⟩ := hLr
      simp only [Value.slice.injEq] at e'
      obtain ⟨rfl, _, rfl⟩ := e'
      obtain ⟨b, off, u, rfl, hb0, hcu, hu, hul⟩ := hi k hlt
      clear hi
      obtain ⟨xs, hxs⟩ : ∃ xs, K.getD k [] = xs := ⟨_, rfl⟩
      rw [hxs] at hu hul
      have HXS := Lib.hid hxs
      clear hxs
      have HU := Lib.hid hu
      obtain ⟨v0, v1, M, l1, l2, hN, h4, h5, h6, h7, h8⟩ := HNr.out
      simp only at hN h4 h5 h6 h7 h8
      have c0 : wr.cell? ⟨N, 0, none⟩ = some v0 := (cell_of_row wr N 0 _ _ (0, 0) hN).trans rfl
      have c4 : wr.cell? ⟨N, 4, none⟩ = some (.map (some M)) := (cell_of_row wr N 4 _ _ (0, 0) hN).trans rfl
      have fr : wr.frozen? ⟨N, 0, none⟩ = false := frozen_of_row wr N 0 _ _ hN
      have hNl : N < wr.heap.size := (Array.getElem?_eq_some_iff.1 hN).1
      clear hu
      go_wp2_with fail
      obtain ⟨vs, hvs, hown, hlb, hinn⟩ := h4
      obtain ⟨x0, hx0, hx1⟩ := OwX.of hown
      obtain ⟨it, hit, hz, hs1, hs8⟩ : ∃ i, Try.prog.info? 25 = some i ∧ i.zero = some (.slice none 0 0) ∧ i.size = 1 ∧ i.bytes = 24 := by
        obtain ⟨i, h, h2⟩ := Option.map_eq_some_iff.1 (show (Try.prog.info? 25).map (fun i => (i.zero, i.size, i.bytes)) = some (some (.slice none 0 0), 1, 24) by kernel_rfl)
        simp only [Prod.mk.injEq] at h2
        exact ⟨i, h, h2⟩
      have HX0 := Lib.hid hx0
      have HX1 := Lib.hid hx1
      have hS : ∀ g, (g = N ∨ v0.ownBlock = some g) → g = N ∨ v0.ownBlock = some g := fun _ h => h
      have hKk : (s.l0 ++ K.take k).length = s.l0.length + k := by simp; omega
      have cN : Hid (wr.heap[N]? = some (.cells #[v0, v1, .int .i64 s.n0, .int .i64 s.n1, .map (some M)] 58 (0, 0))) := hN
      have hlN : ∀ g ob, x0 = some (g, ob) → g ≠ N := fun g ob hg e => by
        have := hlb g (hx1 g ob hg).2.2
        rw [e, l1] at this
        omega
      have HI0 := Lib.hid (Inv.start2 (S := fun g => g = N ∨ v0.ownBlock = some g) hN (.inl rfl) (fun g ob hg => ⟨(hx1 g ob hg).2.1, hlN g ob hg, .inr (hx1 g ob hg).2.2⟩))
      clear hx0 hx1 hN
      have g00 := gh2_0 (some (N, .cells #[v0, v1, .int .i64 s.n0, .int .i64 s.n1, .map (some M)] 58 (0, 0))) x0
      have g01 := gh2_1 (some (N, .cells #[v0, v1, .int .i64 s.n0, .int .i64 s.n1, .map (some M)] 58 (0, 0))) x0
      generalize gh2 (some (N, .cells #[v0, v1, .int .i64 s.n0, .int .i64 s.n1, .map (some M)] 58 (0, 0))) x0 = γ0 at HI0 g00 g01
      have HU0 : Hid (∀ W γ', Inv wr (fun g => g = N ∨ v0.ownBlock = some g) γ' W → BB W u xs) := fun W γ' hI => HU.out.keep fun b h0 hb hlt => hI.far b hlt fun hs => by
        have hz := hul b h0 hb
        rcases hs with e | e
        · rw [e, l1] at hz; omega
        · have := hlb b e; omega
      apply wp_region_eff (Inv wr (fun g => g = N ∨ v0.ownBlock = some g)) γ0 HI0.out (hm := by kernel_rfl)
      case h =>
        (apply SeqF.pure; (focus (first | rfl | (go_simp; done) | (simp [Region.wanted, yielded]; done))); (focus (intro w; go_simp; with_reducible rfl)); go_simp)
        (apply SeqF.pure; (focus (first | rfl | (go_simp; done) | (simp [Region.wanted, yielded]; done))); (focus (intro w; go_simp; with_reducible rfl)); go_simp)
        (apply SeqF.pure; (focus (first | rfl | (go_simp; done) | (simp [Region.wanted, yielded]; done))); (focus (intro w; go_simp; with_reducible rfl)); go_simp)
        (apply SeqF.pure; (focus (first | rfl | (go_simp; done) | (simp [Region.wanted, yielded]; done))); (focus (intro w; go_simp; with_reducible rfl)); go_simp)
        (apply SeqF.pure; (focus (first | rfl | (go_simp; done) | (simp [Region.wanted, yielded]; done))); (focus (intro w; go_simp; with_reducible rfl)); go_simp)
        (apply SeqF.pure; (focus (first | rfl | (go_simp; done) | (simp [Region.wanted, yielded]; done))); (focus (intro w; go_simp; with_reducible rfl)); go_simp)
        (apply SeqF.pure; (focus (first | rfl | (go_simp; done) | (simp [Region.wanted, yielded]; done))); (focus (intro w; go_simp; with_reducible rfl)); go_simp)
        (apply SeqF.read [0]; (focus (first | rfl | (go_simp; done) | (simp [Region.wanted, yielded]; done))); (focus (intro γ' W hg hI; have x0 : W.cell? ⟨N, 0, none⟩ = some v0 := (cell_of_row W N 0 _ _ (0, 0) (hI.here 0 N _ ((hg 0 (by simp)).trans g00)).1).trans rfl; go_simp; with_reducible rfl)); go_simp)
        (apply SeqF.pure; (focus (first | rfl | (go_simp; done) | (simp [Region.wanted, yielded]; done))); (focus (intro w; go_simp; with_reducible rfl)); go_simp)
        apply SeqF.callNew [] 2 5 1 xs.length (xs.map (Value.int .u8)) 20 #[u]
        · (first | rfl | (go_simp; done) | (simp [Region.wanted, yielded]; done))
        · intro w; kernel_rfl
        · exact fun γ' W _ hI => clone_bytes u _ W (HU0.out W γ' hI)
        intro v x hv hvn
        obtain rfl := hv.val (by decide)
        obtain ⟨A2, c2, hA2⟩ := hv.form
        have HV := Lib.hid hv
        clear hv
        go_simp
        apply SeqF.new [2] 3 (fun g => .slice (some ⟨g, 0, none⟩) 1 1) (fun γ => .cells #[rowVal 1 xs.length (γ 2)] 25)
        · intro γ' hg; simp only [hg 2 (by simp)]
        · (first | rfl | (go_simp; done) | (simp [Region.wanted, yielded]; done))
        · intro γ' W hg hI
          simp only [Gh.set_here]
          rw [hA2]
          go_simp
        intro g3 hg3
        have g32 : (γ0.set (some 2) x) 2 = x := Gh.set_here _ _ _
        simp only [g32]
        go_simp
        have q3 : ((γ0.set (some 2) x).set (some 3) (some (g3, .cells #[.slice A2 xs.length c2] 25))) 3 = some (g3, .cells #[.slice A2 xs.length c2] 25) := Gh.set_here _ _ _
        have q2 : ((γ0.set (some 2) x).set (some 3) (some (g3, .cells #[.slice A2 xs.length c2] 25))) 2 = x := (Gh.set_far _ _ (by decide)).trans (Gh.set_here _ _ _)
        have q1 : ((γ0.set (some 2) x).set (some 3) (some (g3, .cells #[.slice A2 xs.length c2] 25))) 1 = x0 := ((Gh.set_far _ _ (by decide)).trans (Gh.set_far _ _ (by decide))).trans g01
        have q0 : ((γ0.set (some 2) x).set (some 3) (some (g3, .cells #[.slice A2 xs.length c2] 25))) 0 = γ0 0 := (Gh.set_far _ _ (by decide)).trans (Gh.set_far _ _ (by decide))
        generalize ((γ0.set (some 2) x).set (some 3) (some (g3, .cells #[.slice A2 xs.length c2] 25))) = γ3 at q0 q1 q2 q3 ⊢
        apply SeqF.append [1, 2, 3] 1 (by simp) (.tmp 37) (.tmp 40) 22 25 it (.slice none 0 0) 1 24 rfl rfl Try.underlying22 hit hz hs1 hs8 rfl (by decide) v0 (s.l0 ++ K.take k).length vs rfl (by rw [q1]; exact HX0.out) ⟨g3, 0, none⟩ 1 1 [.slice A2 xs.length c2] rfl rfl ?n1 ?n2 ?n3 ?n4 (fun γ => vs ++ [rowVal 1 xs.length (γ 2)]) ?n5 ?n6 ?n7
        case n1 =>
          intro γ' W hg hI
          exact World.news_of_block (hI.here 3 g3 _ ((hg 3 (by simp)).trans q3)).1
        case n2 =>
          intro y hy
          simp only [List.mem_singleton] at hy
          subst hy
          rfl
        case n3 => rw [hKk]; unfold maxLen; omega
        case n4 => rw [hKk]; omega
        case n5 => intro γ' hg; simp only [hg 2 (by simp)]
        case n6 => simp only [q2, hA2]
        case n7 =>
          intro u' x' hu' hx'n
          rw [hKk] at hu'
          obtain rfl := hu'.val (by decide)
          obtain ⟨A1, c1', hA1⟩ := hu'.form
          have HU' := Lib.hid hu'
          clear hu'
          go_simp
          (apply SeqF.pure; (focus (first | rfl | (go_simp; done) | (simp [Region.wanted, yielded]; done))); (focus (intro w; go_simp; with_reducible rfl)); go_simp)
          (apply SeqF.pure; (focus (first | rfl | (go_simp; done) | (simp [Region.wanted, yielded]; done))); (focus (intro w; go_simp; with_reducible rfl)); go_simp)
          (apply SeqF.pure; (focus (first | rfl | (go_simp; done) | (simp [Region.wanted, yielded]; done))); (focus (intro w; go_simp; with_reducible rfl)); go_simp)
          have r0 : (γ3.set (some 1) x') 0 = γ0 0 := (Gh.set_far _ _ (by decide)).trans q0
          have r1 : (γ3.set (some 1) x') 1 = x' := Gh.set_here _ _ _
          have r2 : (γ3.set (some 1) x') 2 = x := (Gh.set_far _ _ (by decide)).trans q2
          generalize (γ3.set (some 1) x') = γ4 at r0 r1 r2 ⊢
          apply SeqF.store [0, 1] 0 N (.cells #[v0, v1, .int .i64 s.n0, .int .i64 s.n1, .map (some M)] 58 (0, 0)) (r0.trans g00) (by simp) (fun γ => .cells #[rowVal 1 (s.l0.length + k + 1) (γ 1), v1, .int .i64 s.n0, .int .i64 s.n1, .map (some M)] 58 (0, 0))
          · intro γ' hg; simp only [hg 1 (by simp)]
          · (first | rfl | (go_simp; done) | (simp [Region.wanted, yielded]; done))
          · intro γ' W hg hI hNW
            have d0 : W.cell? ⟨N, 0, none⟩ = some v0 := (cell_of_row W N 0 _ _ (0, 0) hNW).trans rfl
            have d1 : W.frozen? ⟨N, 0, none⟩ = false := frozen_of_row W N 0 _ _ hNW
            refine ⟨W.setCell ⟨N, 0, none⟩ (.slice A1 (s.l0.length + k + 1) c1'), ?_, ?_⟩
            · go_simp
            · refine ⟨rfl, rfl, rfl, by simp, ?_, fun q hq => heap_setCell_other W _ q _ hq⟩
              rw [r1, hA1]
              exact (heap_setCell_same W N 0 _ _ _ hNW).trans rfl
          have t0 : (γ4.set (some 0) (some (N, .cells #[rowVal 1 (s.l0.length + k + 1) x', v1, .int .i64 s.n0, .int .i64 s.n1, .map (some M)] 58 (0, 0)))) 0 = some (N, .cells #[rowVal 1 (s.l0.length + k + 1) x', v1, .int .i64 s.n0, .int .i64 s.n1, .map (some M)] 58 (0, 0)) := Gh.set_here _ _ _
          have t1 : (γ4.set (some 0) (some (N, .cells #[rowVal 1 (s.l0.length + k + 1) x', v1, .int .i64 s.n0, .int .i64 s.n1, .map (some M)] 58 (0, 0)))) 1 = x' := (Gh.set_far _ _ (by decide)).trans r1
          have t2 : (γ4.set (some 0) (some (N, .cells #[rowVal 1 (s.l0.length + k + 1) x', v1, .int .i64 s.n0, .int .i64 s.n1, .map (some M)] 58 (0, 0)))) 2 = x := (Gh.set_far _ _ (by decide)).trans r2
          simp only [r1, hA1]
          simp only [hA1] at t0 t1 t2
          generalize (γ4.set (some 0) (some (N, .cells #[.slice A1 (s.l0.length + k + 1) c1', v1, .int .i64 s.n0, .int .i64 s.n1, .map (some M)] 58 (0, 0)))) = γ5 at t0 t1 t2 ⊢
          apply SeqF.done
          intro w4 hI4
          have hMlt := h6.lt
          have hMS : ¬ (M = N ∨ v0.ownBlock = some M) := by
            rintro (e | e)
            · rw [e, l1] at l2; omega
            · have := hlb M e; omega
          have hEV := h6.keep (hI4.far M hMlt hMS)
          have HEV := Lib.hid hEV
          have c4' : w4.cell? ⟨N, 4, none⟩ = some (.map (some M)) := (cell_of_row w4 N 4 _ _ (0, 0) (hI4.here 0 N _ t0).1).trans rfl
          have hBu := HU0.out w4 _ hI4
          have hok : okKey 1 xs := ⟨by omega, hBu.ok, hBu.len⟩
          have HOK := Lib.hid hok
          have HBU := Lib.hid hBu
          have HI4 := Lib.hid hI4
          obtain ⟨oM, hoM⟩ : ∃ oM, w4.heap[M]? = some oM := ⟨_, Array.getElem?_eq_getElem hEV.lt⟩
          have HOM := Lib.hid hoM
          have hNM : M ≠ N := fun e => by rw [e, l1] at l2; omega
          have HI10 := Lib.hid (Inv.start2 (w0 := w4) (S := fun g => g = N ∨ g = M) (x1 := some (M, oM)) (hI4.here 0 N _ t0).1 (.inl rfl) (fun g ob hg => by
            simp only [Option.some.injEq, Prod.mk.injEq] at hg
            obtain ⟨rfl, rfl⟩ := hg
            exact ⟨hoM, hNM, .inr rfl⟩))
          have t00 := gh2_0 (some (N, .cells #[.slice A1 (s.l0.length + k + 1) c1', v1, .int .i64 s.n0, .int .i64 s.n1, .map (some M)] 58 (0, 0))) (some (M, oM))
          have t01 := gh2_1 (some (N, .cells #[.slice A1 (s.l0.length + k + 1) c1', v1, .int .i64 s.n0, .int .i64 s.n1, .map (some M)] 58 (0, 0))) (some (M, oM))
          generalize gh2 (some (N, .cells #[.slice A1 (s.l0.length + k + 1) c1', v1, .int .i64 s.n0, .int .i64 s.n1, .map (some M)] 58 (0, 0))) (some (M, oM)) = γm at HI10 t00 t01
          have HBm : Hid (∀ W γ', Inv w4 (fun g => g = N ∨ g = M) γ' W → BB W u xs) := fun W γ' hI => HBU.out.keep fun b h0 hb hlt => hI.far b hlt fun hs => by
            have hz := hul b h0 hb
            rcases hs with e | e
            · rw [e, l1] at hz; omega
            · rw [e, l2] at hz; omega
          clear hEV hBu hok hI4 c4 c0 fr c4' hoM
          go_simp
          go_wp2_with fail
          apply wp_region_eff (Inv w4 (fun g => g = N ∨ g = M)) γm HI10.out (hm := by kernel_rfl)
          case h =>
            (apply SeqF.pure; (focus (first | rfl | (go_simp; done) | (simp [Region.wanted, yielded]; done))); (focus (intro w; go_simp; with_reducible rfl)); go_simp)
            (apply SeqF.pure; (focus (first | rfl | (go_simp; done) | (simp [Region.wanted, yielded]; done))); (focus (intro w; go_simp; with_reducible rfl)); go_simp)
            (apply SeqF.pure; (focus (first | rfl | (go_simp; done) | (simp [Region.wanted, yielded]; done))); (focus (intro w; go_simp; with_reducible rfl)); go_simp)
            (apply SeqF.read [0]; (focus (first | rfl | (go_simp; done) | (simp [Region.wanted, yielded]; done))); (focus (intro γ' W hg hI; have x0 : W.cell? ⟨N, 4, none⟩ = some (.map (some M)) := (cell_of_row W N 4 _ _ (0, 0) (hI.here 0 N _ ((hg 0 (by simp)).trans t00)).1).trans rfl; go_simp; with_reducible rfl)); go_simp)
            (apply SeqF.pure; (focus (first | rfl | (go_simp; done) | (simp [Region.wanted, yielded]; done))); (focus (intro w; go_simp; with_reducible rfl)); go_simp)
            (apply SeqF.pure; (focus (first | rfl | (go_simp; done) | (simp [Region.wanted, yielded]; done))); (focus (intro w; go_simp; with_reducible rfl)); go_simp)
            (apply SeqF.read []; (focus (first | rfl | (go_simp; done) | (simp [Region.wanted, yielded]; done))); (focus (intro γ' W hg hI; have x0 := bytes_str (HBm.out W γ' hI); go_simp; with_reducible rfl)); go_simp)
            (apply SeqF.pure; (focus (first | rfl | (go_simp; done) | (simp [Region.wanted, yielded]; done))); (focus (intro w; go_simp; with_reducible rfl)); go_simp)
            apply SeqF.eff [1] (some 1) (fun _ v x => v = undef ∧ ∃ o', x = some (M, o') ∧ ∀ w : World, w.heap[M]? = some o' → EV w M (s.l0.length + s.l1.length + k + 1) (fun s1 x1 => if s1 = 1 ∧ x1 = xs then true else NS.mem { s with l0 := s.l0 ++ K.take k } s1 x1))
            · intro _ _; rfl
            · (first | rfl | (go_simp; done) | (simp [Region.wanted, yielded]; done))
            · intro γ' W hg hI
              have hM := (hI.here 1 M oM ((hg 1 (by simp)).trans t01)).1
              have hE : EV W M _ _ := HEV.out.keep (hM.trans HOM.out.symm)
              obtain ⟨w5, hrun, hE5, hg5⟩ := EV.update hE (by simp only [hKk, List.length_append, List.length_take]; unfold maxLen; omega) HOK.out
              unfold keyV at hrun
              have hM5 := hE5.lt
              refine ⟨undef, some (M, w5.heap[M]), w5, .inr ⟨?_, rfl⟩, ⟨rfl, _, rfl, fun w hw => ?_⟩, hI.grown hg5 1 (fun g hgg => ?_) (Array.getElem?_eq_getElem hM5) (.inl rfl)⟩
              · go_simp
              · exact (hE5.keep (hw.trans (Array.getElem?_eq_getElem hM5).symm)).to (by simp only [hKk, List.length_append, List.length_take] <;> omega) (fun _ _ => rfl)
              · cases hgg
                exact ⟨oM, (hg 1 (by simp)).trans t01⟩
            rintro v5 x5 ⟨rfl, o5, rfl, hE5⟩
            have HE5 := Lib.hid hE5
            clear hE5
            apply SeqF.done
            intro w5 hI5
            have hN5 : w5.heap[N]? = w4.heap[N]? := (hI5.here 0 N _ ((Gh.set_far _ _ (by decide)).trans t00)).1.trans (HI4.out.here 0 N _ t0).1.symm
            have hg5' : w4.grownBy w5 (some M) := ⟨hI5.os, hI5.tape, hI5.output, hI5.size, fun q hq hne => by
              by_cases hqN : q = N
              · rw [hqN]; exact hN5
              · exact hI5.far q hq (fun h => h.elim hqN (fun e => hne (by rw [e])))⟩
            have hE5 := HE5.out w5 (hI5.here 1 M _ (Gh.set_here _ _ _)).1
            have hE6 : EV w5 M ((s.l0 ++ K.take k).length + 1 + s.l1.length) ({ s with l0 := (s.l0 ++ K.take k) ++ [xs] } : NS).mem := hE5.to (by rw [hKk]; omega) (mem0 _ xs)
            obtain ⟨lab2, hlab2, hnet2, hfr2⟩ := push0 (s := { s with l0 := s.l0 ++ K.take k }) (xs := xs) (v := rowVal 1 xs.length x) (u := rowVal 1 (s.l0.length + k + 1) x') l1 l2 cN.out hvs hlb (fun b hb => (World.ownsRow.lt hown b hb).2) hinn h5 h6.lt h7 h8 hS HI4.out HOK.out.2.1 HOK.out.2.2
              (by rw [hA1]; exact t0) (by rw [t1]; have h := HU'.out; rw [hA2]; simp only [hKk]; exact h) (by rw [t2]; exact HV.out) (by intro g ob hg; rw [t2] at hg; exact hvn g ob hg) hE6 hg5'
            have eK : s.l0 ++ K.take (k + 1) = (s.l0 ++ K.take k) ++ [xs] := by
              rw [List.take_succ_eq_append_getElem hlt, ← List.append_assoc, ← HXS.out, List.getD_eq_getElem?_getD, List.getElem?_eq_getElem hlt]
              rfl
            have HNT := Lib.hid hnet2
            have HLB2 := Lib.hid hlab2
            have HFR2 := Lib.hid hfr2
            have hwz := HF.out.size
            clear hnet2 hlab2 hfr2 hE6 hE5
            go_simp
            go_wp2_with fail
            go_roundw
            case rel =>
              refine ⟨k + 1, lab2, by omega, by go_num, fun g hg => (HLB2.out g (by omega)).trans (HLB.out g hg), ?_, HF.out.trans HLB.out HFR2.out⟩
              rw [eK]
              exact HNT.out
            case measure => simp [intOf] <;> omega
          case hl => rfl
          case ho => kernel_rfl
      case hl => rfl
      case ho => kernel_rfl
    · go_wp2_with fail
      go_ret
      have e : k = K.length := by omega
      subst e
      rw [List.take_length] at HNr
      exact ⟨rfl, lab1, HLB.out, HNr.out, HF.out⟩
theorem put_2 (lab : Nat → Nat) (N : Nat) (s : NS) (sd : Int) (l : Value) (K : List (List Int)) (w : World) (h : Net w lab N s) (hsd : sd = 2) (hl : LR w lab l K) (hn : (s.l0.length + s.l1.length + K.length) * 24 ≤ 140737488355328) :
    Calls Try.prog 8 #[.pointer (some ⟨N, 0, none⟩), .int .u8 sd, l] w fun e w' => e = .returned (.int .i64 0) ∧ ∃ lab', (∀ g, g < w.heap.size → lab' g = lab g) ∧ Net w' lab' N { s with l1 := s.l1 ++ K } ∧ Fr lab w w' := by
  subst hsd
  have HN := Lib.hid h
  have HL := Lib.hid hl
  obtain ⟨v0, v1, M, l1, l2, hN, h4, h5, h6, h7, h8⟩ := h
  (have c0 : w.cell? ⟨N, 0, none⟩ = some v0 := (cell_of_row w N 0 _ _ (0, 0) hN).trans rfl; have c1 : w.cell? ⟨N, 1, none⟩ = some v1 := (cell_of_row w N 1 _ _ (0, 0) hN).trans rfl; have c2 : w.cell? ⟨N, 2, none⟩ = some (.int .i64 s.n0) := (cell_of_row w N 2 _ _ (0, 0) hN).trans rfl; have c3 : w.cell? ⟨N, 3, none⟩ = some (.int .i64 s.n1) := (cell_of_row w N 3 _ _ (0, 0) hN).trans rfl; have c4 : w.cell? ⟨N, 4, none⟩ = some (.map (some M)) := (cell_of_row w N 4 _ _ (0, 0) hN).trans rfl)
  clear h4 h5 h6 h7 h8 hN c0 c1 c2 c3
  obtain ⟨A, cap, hv, hK, _⟩ := hl
  have q1 := map_eq M
  have q2 := map_gd M
  go_enter Try.func8, Try.ntmps8
  go_wp2_with fail
  refine (side_at N 2 M w (by omega) c4).mono ?_
  rintro e w1 ⟨rfl, rfl⟩
  have e2 : sideNo 2 = 1 := rfl
  rw [e2]
  have hl0 : l = .slice A K.length cap := hv
  subst hl0
  clear q1 q2 c4 l1 l2 v0 v1
  go_wp2_with fail
  go_loopw [26] (fun i wr => ∃ (k : Nat) (lab' : Nat → Nat), k ≤ K.length ∧ i = .int .i64 k ∧ Hid (∀ g, g < w.heap.size → lab' g = lab g) ∧ Hid (Net wr lab' N { s with l1 := s.l1 ++ K.take k }) ∧ Hid (Fr lab w wr)) (fun i _ => K.length - (intOf i).toNat)
  case atStart => exact ⟨0, lab, Nat.zero_le _, rfl, fun _ _ => rfl, by rw [List.take_zero, List.append_nil]; exact HN.out, Fr.refl _ _⟩
  case round =>
    obtain ⟨k, lab1, hk, rfl, HLB, HNr, HF⟩ := hrel
    by_cases hlt : k < K.length
    · have hLr := HL.out.keep (lab1 := lab1) (w1 := wr) (fun g hg hm => HF.out.block g hg (.inl hm)) HLB.out
      obtain ⟨A', cap', e', _, hi⟩ := hLr
      simp only [Value.slice.injEq] at e'
      obtain ⟨rfl, _, rfl⟩ := e'
      obtain ⟨b, off, u, rfl, hb0, hcu, hu, hul⟩ := hi k hlt
      clear hi
      obtain ⟨xs, hxs⟩ : ∃ xs, K.getD k [] = xs := ⟨_, rfl⟩
      rw [hxs] at hu hul
      have HXS := Lib.hid hxs
      clear hxs
      have HU := Lib.hid hu
      obtain ⟨v0, v1, M, l1, l2, hN, h4, h5, h6, h7, h8⟩ := HNr.out
      simp only at hN h4 h5 h6 h7 h8
      have c1 : wr.cell? ⟨N, 1, none⟩ = some v1 := (cell_of_row wr N 1 _ _ (0, 0) hN).trans rfl
      have c4 : wr.cell? ⟨N, 4, none⟩ = some (.map (some M)) := (cell_of_row wr N 4 _ _ (0, 0) hN).trans rfl
      have fr : wr.frozen? ⟨N, 1, none⟩ = false := frozen_of_row wr N 1 _ _ hN
      have hNl : N < wr.heap.size := (Array.getElem?_eq_some_iff.1 hN).1
      clear hu
      go_wp2_with fail
      obtain ⟨vs, hvs, hown, hlb, hinn⟩ := h5
      obtain ⟨x0, hx0, hx1⟩ := OwX.of hown
      obtain ⟨it, hit, hz, hs1, hs8⟩ : ∃ i, Try.prog.info? 25 = some i ∧ i.zero = some (.slice none 0 0) ∧ i.size = 1 ∧ i.bytes = 24 := by
        obtain ⟨i, h, h2⟩ := Option.map_eq_some_iff.1 (show (Try.prog.info? 25).map (fun i => (i.zero, i.size, i.bytes)) = some (some (.slice none 0 0), 1, 24) by kernel_rfl)
        simp only [Prod.mk.injEq] at h2
        exact ⟨i, h, h2⟩
      have HX0 := Lib.hid hx0
      have HX1 := Lib.hid hx1
      have hS : ∀ g, (g = N ∨ v1.ownBlock = some g) → g = N ∨ v1.ownBlock = some g := fun _ h => h
      have hKk : (s.l1 ++ K.take k).length = s.l1.length + k := by simp; omega
      have cN : Hid (wr.heap[N]? = some (.cells #[v0, v1, .int .i64 s.n0, .int .i64 s.n1, .map (some M)] 58 (0, 0))) := hN
      have hlN : ∀ g ob, x0 = some (g, ob) → g ≠ N := fun g ob hg e => by
        have := hlb g (hx1 g ob hg).2.2
        rw [e, l1] at this
        omega
      have HI0 := Lib.hid (Inv.start2 (S := fun g => g = N ∨ v1.ownBlock = some g) hN (.inl rfl) (fun g ob hg => ⟨(hx1 g ob hg).2.1, hlN g ob hg, .inr (hx1 g ob hg).2.2⟩))
      clear hx0 hx1 hN
      have g00 := gh2_0 (some (N, .cells #[v0, v1, .int .i64 s.n0, .int .i64 s.n1, .map (some M)] 58 (0, 0))) x0
      have g01 := gh2_1 (some (N, .cells #[v0, v1, .int .i64 s.n0, .int .i64 s.n1, .map (some M)] 58 (0, 0))) x0
      generalize gh2 (some (N, .cells #[v0, v1, .int .i64 s.n0, .int .i64 s.n1, .map (some M)] 58 (0, 0))) x0 = γ0 at HI0 g00 g01
      have HU0 : Hid (∀ W γ', Inv wr (fun g => g = N ∨ v1.ownBlock = some g) γ' W → BB W u xs) := fun W γ' hI => HU.out.keep fun b h0 hb hlt => hI.far b hlt fun hs => by
        have hz := hul b h0 hb
        rcases hs with e | e
        · rw [e, l1] at hz; omega
        · have := hlb b e; omega
      apply wp_region_eff (Inv wr (fun g => g = N ∨ v1.ownBlock = some g)) γ0 HI0.out (hm := by kernel_rfl)
      case h =>
        (apply SeqF.pure; (focus (first | rfl | (go_simp; done) | (simp [Region.wanted, yielded]; done))); (focus (intro w; go_simp; with_reducible rfl)); go_simp)
        (apply SeqF.pure; (focus (first | rfl | (go_simp; done) | (simp [Region.wanted, yielded]; done))); (focus (intro w; go_simp; with_reducible rfl)); go_simp)
        (apply SeqF.pure; (focus (first | rfl | (go_simp; done) | (simp [Region.wanted, yielded]; done))); (focus (intro w; go_simp; with_reducible rfl)); go_simp)
        (apply SeqF.pure; (focus (first | rfl | (go_simp; done) | (simp [Region.wanted, yielded]; done))); (focus (intro w; go_simp; with_reducible rfl)); go_simp)
        (apply SeqF.pure; (focus (first | rfl | (go_simp; done) | (simp [Region.wanted, yielded]; done))); (focus (intro w; go_simp; with_reducible rfl)); go_simp)
        (apply SeqF.pure; (focus (first | rfl | (go_simp; done) | (simp [Region.wanted, yielded]; done))); (focus (intro w; go_simp; with_reducible rfl)); go_simp)
        (apply SeqF.pure; (focus (first | rfl | (go_simp; done) | (simp [Region.wanted, yielded]; done))); (focus (intro w; go_simp; with_reducible rfl)); go_simp)
        (apply SeqF.read [0]; (focus (first | rfl | (go_simp; done) | (simp [Region.wanted, yielded]; done))); (focus (intro γ' W hg hI; have x0 : W.cell? ⟨N, 1, none⟩ = some v1 := (cell_of_row W N 1 _ _ (0, 0) (hI.here 0 N _ ((hg 0 (by simp)).trans g00)).1).trans rfl; go_simp; with_reducible rfl)); go_simp)
        (apply SeqF.pure; (focus (first | rfl | (go_simp; done) | (simp [Region.wanted, yielded]; done))); (focus (intro w; go_simp; with_reducible rfl)); go_simp)
        apply SeqF.callNew [] 2 5 1 xs.length (xs.map (Value.int .u8)) 20 #[u]
        · (first | rfl | (go_simp; done) | (simp [Region.wanted, yielded]; done))
        · intro w; kernel_rfl
        · exact fun γ' W _ hI => clone_bytes u _ W (HU0.out W γ' hI)
        intro v x hv hvn
        obtain rfl := hv.val (by decide)
        obtain ⟨A2, c2, hA2⟩ := hv.form
        have HV := Lib.hid hv
        clear hv
        go_simp
        apply SeqF.new [2] 3 (fun g => .slice (some ⟨g, 0, none⟩) 1 1) (fun γ => .cells #[rowVal 1 xs.length (γ 2)] 25)
        · intro γ' hg; simp only [hg 2 (by simp)]
        · (first | rfl | (go_simp; done) | (simp [Region.wanted, yielded]; done))
        · intro γ' W hg hI
          simp only [Gh.set_here]
          rw [hA2]
          go_simp
        intro g3 hg3
        have g32 : (γ0.set (some 2) x) 2 = x := Gh.set_here _ _ _
        simp only [g32]
        go_simp
        have q3 : ((γ0.set (some 2) x).set (some 3) (some (g3, .cells #[.slice A2 xs.length c2] 25))) 3 = some (g3, .cells #[.slice A2 xs.length c2] 25) := Gh.set_here _ _ _
        have q2 : ((γ0.set (some 2) x).set (some 3) (some (g3, .cells #[.slice A2 xs.length c2] 25))) 2 = x := (Gh.set_far _ _ (by decide)).trans (Gh.set_here _ _ _)
        have q1 : ((γ0.set (some 2) x).set (some 3) (some (g3, .cells #[.slice A2 xs.length c2] 25))) 1 = x0 := ((Gh.set_far _ _ (by decide)).trans (Gh.set_far _ _ (by decide))).trans g01
        have q0 : ((γ0.set (some 2) x).set (some 3) (some (g3, .cells #[.slice A2 xs.length c2] 25))) 0 = γ0 0 := (Gh.set_far _ _ (by decide)).trans (Gh.set_far _ _ (by decide))
        generalize ((γ0.set (some 2) x).set (some 3) (some (g3, .cells #[.slice A2 xs.length c2] 25))) = γ3 at q0 q1 q2 q3 ⊢
        apply SeqF.append [1, 2, 3] 1 (by simp) (.tmp 37) (.tmp 40) 22 25 it (.slice none 0 0) 1 24 rfl rfl Try.underlying22 hit hz hs1 hs8 rfl (by decide) v1 (s.l1 ++ K.take k).length vs rfl (by rw [q1]; exact HX0.out) ⟨g3, 0, none⟩ 1 1 [.slice A2 xs.length c2] rfl rfl ?n1 ?n2 ?n3 ?n4 (fun γ => vs ++ [rowVal 1 xs.length (γ 2)]) ?n5 ?n6 ?n7
        case n1 =>
          intro γ' W hg hI
          exact World.news_of_block (hI.here 3 g3 _ ((hg 3 (by simp)).trans q3)).1
        case n2 =>
          intro y hy
          simp only [List.mem_singleton] at hy
          subst hy
          rfl
        case n3 => rw [hKk]; unfold maxLen; omega
        case n4 => rw [hKk]; omega
        case n5 => intro γ' hg; simp only [hg 2 (by simp)]
        case n6 => simp only [q2, hA2]
        case n7 =>
          intro u' x' hu' hx'n
          rw [hKk] at hu'
          obtain rfl := hu'.val (by decide)
          obtain ⟨A1, c1', hA1⟩ := hu'.form
          have HU' := Lib.hid hu'
          clear hu'
          go_simp
          (apply SeqF.pure; (focus (first | rfl | (go_simp; done) | (simp [Region.wanted, yielded]; done))); (focus (intro w; go_simp; with_reducible rfl)); go_simp)
          (apply SeqF.pure; (focus (first | rfl | (go_simp; done) | (simp [Region.wanted, yielded]; done))); (focus (intro w; go_simp; with_reducible rfl)); go_simp)
          (apply SeqF.pure; (focus (first | rfl | (go_simp; done) | (simp [Region.wanted, yielded]; done))); (focus (intro w; go_simp; with_reducible rfl)); go_simp)
          have r0 : (γ3.set (some 1) x') 0 = γ0 0 := (Gh.set_far _ _ (by decide)).trans q0
          have r1 : (γ3.set (some 1) x') 1 = x' := Gh.set_here _ _ _
          have r2 : (γ3.set (some 1) x') 2 = x := (Gh.set_far _ _ (by decide)).trans q2
          generalize (γ3.set (some 1) x') = γ4 at r0 r1 r2 ⊢
          apply SeqF.store [0, 1] 0 N (.cells #[v0, v1, .int .i64 s.n0, .int .i64 s.n1, .map (some M)] 58 (0, 0)) (r0.trans g00) (by simp) (fun γ => .cells #[v0, rowVal 1 (s.l1.length + k + 1) (γ 1), .int .i64 s.n0, .int .i64 s.n1, .map (some M)] 58 (0, 0))
          · intro γ' hg; simp only [hg 1 (by simp)]
          · (first | rfl | (go_simp; done) | (simp [Region.wanted, yielded]; done))
          · intro γ' W hg hI hNW
            have d0 : W.cell? ⟨N, 1, none⟩ = some v1 := (cell_of_row W N 1 _ _ (0, 0) hNW).trans rfl
            have d1 : W.frozen? ⟨N, 1, none⟩ = false := frozen_of_row W N 1 _ _ hNW
            refine ⟨W.setCell ⟨N, 1, none⟩ (.slice A1 (s.l1.length + k + 1) c1'), ?_, ?_⟩
            · go_simp
            · refine ⟨rfl, rfl, rfl, by simp, ?_, fun q hq => heap_setCell_other W _ q _ hq⟩
              rw [r1, hA1]
              exact (heap_setCell_same W N 1 _ _ _ hNW).trans rfl
          have t0 : (γ4.set (some 0) (some (N, .cells #[v0, rowVal 1 (s.l1.length + k + 1) x', .int .i64 s.n0, .int .i64 s.n1, .map (some M)] 58 (0, 0)))) 0 = some (N, .cells #[v0, rowVal 1 (s.l1.length + k + 1) x', .int .i64 s.n0, .int .i64 s.n1, .map (some M)] 58 (0, 0)) := Gh.set_here _ _ _
          have t1 : (γ4.set (some 0) (some (N, .cells #[v0, rowVal 1 (s.l1.length + k + 1) x', .int .i64 s.n0, .int .i64 s.n1, .map (some M)] 58 (0, 0)))) 1 = x' := (Gh.set_far _ _ (by decide)).trans r1
          have t2 : (γ4.set (some 0) (some (N, .cells #[v0, rowVal 1 (s.l1.length + k + 1) x', .int .i64 s.n0, .int .i64 s.n1, .map (some M)] 58 (0, 0)))) 2 = x := (Gh.set_far _ _ (by decide)).trans r2
          simp only [r1, hA1]
          simp only [hA1] at t0 t1 t2
          generalize (γ4.set (some 0) (some (N, .cells #[v0, .slice A1 (s.l1.length + k + 1) c1', .int .i64 s.n0, .int .i64 s.n1, .map (some M)] 58 (0, 0)))) = γ5 at t0 t1 t2 ⊢
          apply SeqF.done
          intro w4 hI4
          have hMlt := h6.lt
          have hMS : ¬ (M = N ∨ v1.ownBlock = some M) := by
            rintro (e | e)
            · rw [e, l1] at l2; omega
            · have := hlb M e; omega
          have hEV := h6.keep (hI4.far M hMlt hMS)
          have HEV := Lib.hid hEV
          have c4' : w4.cell? ⟨N, 4, none⟩ = some (.map (some M)) := (cell_of_row w4 N 4 _ _ (0, 0) (hI4.here 0 N _ t0).1).trans rfl
          have hBu := HU0.out w4 _ hI4
          have hok : okKey 2 xs := ⟨by omega, hBu.ok, hBu.len⟩
          have HOK := Lib.hid hok
          have HBU := Lib.hid hBu
          have HI4 := Lib.hid hI4
          obtain ⟨oM, hoM⟩ : ∃ oM, w4.heap[M]? = some oM := ⟨_, Array.getElem?_eq_getElem hEV.lt⟩
          have HOM := Lib.hid hoM
          have hNM : M ≠ N := fun e => by rw [e, l1] at l2; omega
          have HI10 := Lib.hid (Inv.start2 (w0 := w4) (S := fun g => g = N ∨ g = M) (x1 := some (M, oM)) (hI4.here 0 N _ t0).1 (.inl rfl) (fun g ob hg => by
            simp only [Option.some.injEq, Prod.mk.injEq] at hg
            obtain ⟨rfl, rfl⟩ := hg
            exact ⟨hoM, hNM, .inr rfl⟩))
          have t00 := gh2_0 (some (N, .cells #[v0, .slice A1 (s.l1.length + k + 1) c1', .int .i64 s.n0, .int .i64 s.n1, .map (some M)] 58 (0, 0))) (some (M, oM))
          have t01 := gh2_1 (some (N, .cells #[v0, .slice A1 (s.l1.length + k + 1) c1', .int .i64 s.n0, .int .i64 s.n1, .map (some M)] 58 (0, 0))) (some (M, oM))
          generalize gh2 (some (N, .cells #[v0, .slice A1 (s.l1.length + k + 1) c1', .int .i64 s.n0, .int .i64 s.n1, .map (some M)] 58 (0, 0))) (some (M, oM)) = γm at HI10 t00 t01
          have HBm : Hid (∀ W γ', Inv w4 (fun g => g = N ∨ g = M) γ' W → BB W u xs) := fun W γ' hI => HBU.out.keep fun b h0 hb hlt => hI.far b hlt fun hs => by
            have hz := hul b h0 hb
            rcases hs with e | e
            · rw [e, l1] at hz; omega
            · rw [e, l2] at hz; omega
          clear hEV hBu hok hI4 c4 c1 fr c4' hoM
          go_simp
          go_wp2_with fail
          apply wp_region_eff (Inv w4 (fun g => g = N ∨ g = M)) γm HI10.out (hm := by kernel_rfl)
          case h =>
            (apply SeqF.pure; (focus (first | rfl | (go_simp; done) | (simp [Region.wanted, yielded]; done))); (focus (intro w; go_simp; with_reducible rfl)); go_simp)
            (apply SeqF.pure; (focus (first | rfl | (go_simp; done) | (simp [Region.wanted, yielded]; done))); (focus (intro w; go_simp; with_reducible rfl)); go_simp)
            (apply SeqF.pure; (focus (first | rfl | (go_simp; done) | (simp [Region.wanted, yielded]; done))); (focus (intro w; go_simp; with_reducible rfl)); go_simp)
            (apply SeqF.read [0]; (focus (first | rfl | (go_simp; done) | (simp [Region.wanted, yielded]; done))); (focus (intro γ' W hg hI; have x0 : W.cell? ⟨N, 4, none⟩ = some (.map (some M)) := (cell_of_row W N 4 _ _ (0, 0) (hI.here 0 N _ ((hg 0 (by simp)).trans t00)).1).trans rfl; go_simp; with_reducible rfl)); go_simp)
            (apply SeqF.pure; (focus (first | rfl | (go_simp; done) | (simp [Region.wanted, yielded]; done))); (focus (intro w; go_simp; with_reducible rfl)); go_simp)
            (apply SeqF.pure; (focus (first | rfl | (go_simp; done) | (simp [Region.wanted, yielded]; done))); (focus (intro w; go_simp; with_reducible rfl)); go_simp)
            (apply SeqF.read []; (focus (first | rfl | (go_simp; done) | (simp [Region.wanted, yielded]; done))); (focus (intro γ' W hg hI; have x0 := bytes_str (HBm.out W γ' hI); go_simp; with_reducible rfl)); go_simp)
            (apply SeqF.pure; (focus (first | rfl | (go_simp; done) | (simp [Region.wanted, yielded]; done))); (focus (intro w; go_simp; with_reducible rfl)); go_simp)
            apply SeqF.eff [1] (some 1) (fun _ v x => v = undef ∧ ∃ o', x = some (M, o') ∧ ∀ w : World, w.heap[M]? = some o' → EV w M (s.l0.length + s.l1.length + k + 1) (fun s1 x1 => if s1 = 2 ∧ x1 = xs then true else NS.mem { s with l1 := s.l1 ++ K.take k } s1 x1))
            · intro _ _; rfl
            · (first | rfl | (go_simp; done) | (simp [Region.wanted, yielded]; done))
            · intro γ' W hg hI
              have hM := (hI.here 1 M oM ((hg 1 (by simp)).trans t01)).1
              have hE : EV W M _ _ := HEV.out.keep (hM.trans HOM.out.symm)
              obtain ⟨w5, hrun, hE5, hg5⟩ := EV.update hE (by simp only [hKk, List.length_append, List.length_take]; unfold maxLen; omega) HOK.out
              unfold keyV at hrun
              have hM5 := hE5.lt
              refine ⟨undef, some (M, w5.heap[M]), w5, .inr ⟨?_, rfl⟩, ⟨rfl, _, rfl, fun w hw => ?_⟩, hI.grown hg5 1 (fun g hgg => ?_) (Array.getElem?_eq_getElem hM5) (.inl rfl)⟩
              · go_simp
              · exact (hE5.keep (hw.trans (Array.getElem?_eq_getElem hM5).symm)).to (by simp only [hKk, List.length_append, List.length_take] <;> omega) (fun _ _ => rfl)
              · cases hgg
                exact ⟨oM, (hg 1 (by simp)).trans t01⟩
            rintro v5 x5 ⟨rfl, o5, rfl, hE5⟩
            have HE5 := Lib.hid hE5
            clear hE5
            apply SeqF.done
            intro w5 hI5
            have hN5 : w5.heap[N]? = w4.heap[N]? := (hI5.here 0 N _ ((Gh.set_far _ _ (by decide)).trans t00)).1.trans (HI4.out.here 0 N _ t0).1.symm
            have hg5' : w4.grownBy w5 (some M) := ⟨hI5.os, hI5.tape, hI5.output, hI5.size, fun q hq hne => by
              by_cases hqN : q = N
              · rw [hqN]; exact hN5
              · exact hI5.far q hq (fun h => h.elim hqN (fun e => hne (by rw [e])))⟩
            have hE5 := HE5.out w5 (hI5.here 1 M _ (Gh.set_here _ _ _)).1
            have hE6 : EV w5 M (s.l0.length + ((s.l1 ++ K.take k).length + 1)) ({ s with l1 := (s.l1 ++ K.take k) ++ [xs] } : NS).mem := hE5.to (by rw [hKk]; omega) (mem1 _ xs)
            obtain ⟨lab2, hlab2, hnet2, hfr2⟩ := push1 (s := { s with l1 := s.l1 ++ K.take k }) (xs := xs) (v := rowVal 1 xs.length x) (u := rowVal 1 (s.l1.length + k + 1) x') l1 l2 cN.out hvs hlb (fun b hb => (World.ownsRow.lt hown b hb).2) hinn h4 h6.lt h7 h8 hS HI4.out HOK.out.2.1 HOK.out.2.2
              (by rw [hA1]; exact t0) (by rw [t1]; have h := HU'.out; rw [hA2]; simp only [hKk]; exact h) (by rw [t2]; exact HV.out) (by intro g ob hg; rw [t2] at hg; exact hvn g ob hg) hE6 hg5'
            have eK : s.l1 ++ K.take (k + 1) = (s.l1 ++ K.take k) ++ [xs] := by
              rw [List.take_succ_eq_append_getElem hlt, ← List.append_assoc, ← HXS.out, List.getD_eq_getElem?_getD, List.getElem?_eq_getElem hlt]
              rfl
            have HNT := Lib.hid hnet2
            have HLB2 := Lib.hid hlab2
            have HFR2 := Lib.hid hfr2
            have hwz := HF.out.size
            clear hnet2 hlab2 hfr2 hE6 hE5
            go_simp
            go_wp2_with fail
            go_roundw
            case rel =>
              refine ⟨k + 1, lab2, by omega, by go_num, fun g hg => (HLB2.out g (by omega)).trans (HLB.out g hg), ?_, HF.out.trans HLB.out HFR2.out⟩
              rw [eK]
              exact HNT.out
            case measure => simp [intOf] <;> omega
          case hl => rfl
          case ho => kernel_rfl
      case hl => rfl
      case ho => kernel_rfl
    · go_wp2_with fail
      go_ret
      have e : k = K.length := by omega
      subst e
      rw [List.take_length] at HNr
      exact ⟨rfl, lab1, HLB.out, HNr.out, HF.out⟩
end Go.Proofs.Ythebhbcfacoknaa
