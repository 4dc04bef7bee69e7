/- What is proved: what the law NetworkPlays keeps between its calls; no condition beyond those typed. -/
import Derived.Test.YthebhbcfacoknaaRef
set_option linter.unusedSimpArgs false
set_option linter.unusedVariables false
namespace Go.Proofs.Ythebhbcfacoknaa
open Go.RowKit
open Go.Maps (Keyed)
set_option maxRecDepth 100000
set_option maxHeartbeats 4000000
structure OpV where
  call : Int
  side : Int
  num : Int
  bytes : List (List Int)
def zOp : OpV := ⟨0, 0, 0, []⟩
/-- A script, read. -/
def ROps (w : World) (v : Value) (O : List OpV) : Prop :=
  ∃ A cap, v = .slice A O.length cap ∧ O.length ≤ 1048576 ∧ ∀ i, i < O.length → ∃ b off u, A = some ⟨b, off, none⟩ ∧
    w.cell? ⟨b, off + i * 4, none⟩ = some (.int .u8 (O.getD i zOp).call) ∧ w.cell? ⟨b, off + i * 4 + 1, none⟩ = some (.int .u8 (O.getD i zOp).side) ∧ w.cell? ⟨b, off + i * 4 + 2, none⟩ = some (.int .i64 (O.getD i zOp).num) ∧ w.cell? ⟨b, off + i * 4 + 3, none⟩ = some u ∧
    LR w (fun _ => 0) u (O.getD i zOp).bytes ∧ (0 ≤ (O.getD i zOp).side ∧ (O.getD i zOp).side ≤ 255) ∧ (0 ≤ (O.getD i zOp).call ∧ (O.getD i zOp).call ≤ 255) ∧ (-9223372036854775808 ≤ (O.getD i zOp).num ∧ (O.getD i zOp).num ≤ 9223372036854775807)
def total (O : List OpV) : Nat := (O.map fun o => o.bytes.length).sum
theorem total_take {O : List OpV} {k : Nat} (h : k < O.length) : total (O.take (k + 1)) = total (O.take k) + (O.getD k zOp).bytes.length ∧ total (O.take (k + 1)) ≤ total O := by
  constructor
  · unfold total
    rw [List.take_succ_eq_append_getElem h, List.map_append, List.sum_append, List.getD_eq_getElem?_getD, List.getElem?_eq_getElem h]
    simp
  · unfold total
    conv => rhs; rw [← List.take_append_drop (k + 1) O, List.map_append, List.sum_append]
    omega
/-- All that the two networks hold, and the frame. -/
structure Both (w : World) (N T : Nat) (lab : Nat → Nat) (s t : NS) (wr : World) : Prop where
  zero : ∀ g, g < w.heap.size → lab g = 0
  net : Net wr lab N s
  ref : RNet wr lab T t
  below : Below w.heap.size w wr
section
variable {w wr w1 : World} {N T : Nat} {lab lab1 : Nat → Nat} {s t s1 t1 : NS}
theorem Both.ext (h : Both w N T lab s t wr) (hb : Below wr.heap.size wr w1) : Both w N T (Go.Proofs.Ythebhbcfacoknaa.ext lab wr.heap.size) s t w1 := by
  have hz := h.below.size
  exact ⟨fun g hg => (ext_old lab (by omega)).trans (h.zero g hg), h.net.keep (fun g hg _ _ => hb.block g hg) (fun g hg => ext_old lab hg), h.ref.keep (fun g hg _ _ => hb.block g hg) (fun g hg => ext_old lab hg), bl_then h.below hz hb⟩
theorem Both.same (h : Both w N T lab s t wr) (hb : Below wr.heap.size wr w1) : Both w N T lab s t w1 :=
  ⟨h.zero, h.net.keep (fun g hg _ _ => hb.block g hg) (fun g hg => rfl), h.ref.keep (fun g hg _ _ => hb.block g hg) (fun g hg => rfl), bl_then h.below h.below.size hb⟩
/-- The network has turned. -/
theorem Both.turn (h : Both w N T lab s t wr) (hl : ∀ g, g < wr.heap.size → lab1 g = lab g) (hn : Net w1 lab1 N s1) (hf : Fr lab wr w1) : Both w N T lab1 s1 t w1 := by
  have hz := h.below.size
  exact ⟨fun g hg => (hl g (by omega)).trans (h.zero g hg), hn, h.ref.keep (fun g hg h6 _ => hf.block g hg (.inr (by omega))) hl, fr_below h.below hf hz h.zero⟩
theorem fr_of_grown (h : Both w N T lab s t wr) (hg : wr.grownBy w1 (some N)) : Fr lab wr w1 :=
  ⟨hg.os, hg.tape, hg.output, hg.size, fun g hlt hm => hg.block g hlt (fun e => by
    obtain ⟨v0, v1, M, l1, _⟩ := h.net
    injection e with e
    subst e
    omega)⟩
/-- The reference's network has turned. -/
theorem Both.turnR (h : Both w N T lab s t wr) (hl : ∀ g, g < wr.heap.size → lab1 g = lab g) (hr : RNet w1 lab1 T t1) (os : w1.os = wr.os) (tp : w1.tape = wr.tape) (ou : w1.output = wr.output) (sz : wr.heap.size ≤ w1.heap.size)
    (hf : ∀ g, g < wr.heap.size → lab g ≤ 5 → w1.heap[g]? = wr.heap[g]?) : Both w N T lab1 s t1 w1 := by
  have hz := h.below.size
  refine ⟨fun g hg => (hl g (by omega)).trans (h.zero g hg), h.net.keep (fun g hg _ h5 => hf g hg h5) hl, hr, os.trans h.below.os, tp.trans h.below.tape, ou.trans h.below.output, by omega, fun g hg => ?_⟩
  exact (hf g (by omega) (by have := h.zero g hg; omega)).trans (h.below.block g hg)
end
theorem rpush0 {wr w5 : World} {S : Nat → Prop} {γ : Gh} {lab : Nat → Nat} {T : Nat} {s : NS} {v0 v1 v u : Value} {vs : List Value} {xs : List Int}
    (h1 : lab T = 6) (hT : wr.heap[T]? = some (.cells #[v0, .int .i64 s.n0, v1, .int .i64 s.n1] 43 (0, 0))) (hvs : vs.length = s.l0.length) (hl : ∀ b, v0.ownBlock = some b → lab b = 7)
    (hi : ∀ i, i < s.l0.length → BB wr (vs.getD i undef) (s.l0.getD i []) ∧ ∀ b, 0 < (s.l0.getD i []).length → (vs.getD i undef).ownBlock = some b → lab b = 9)
    (h5 : Rows_ wr lab 8 9 v1 s.l1) (hS : ∀ g, S g → g = T ∨ v0.ownBlock = some g) (hI : Inv wr S γ w5) (hx : okB xs) (hxl : xs.length ≤ 140737488355328)
    (g0 : γ 0 = some (T, .cells #[u, .int .i64 s.n0, v1, .int .i64 s.n1] 43 (0, 0))) (g1 : OwX 25 1 u (γ 1) (s.l0.length + 1) (vs ++ [v])) (g2 : OwX 5 1 v (γ 2) xs.length (xs.map (Value.int .u8))) (g2n : ∀ g ob, γ 2 = some (g, ob) → wr.heap.size ≤ g) :
    ∃ lab', (∀ b, b < wr.heap.size → lab' b = lab b) ∧ RNet w5 lab' T { s with l0 := s.l0 ++ [xs] } ∧ (∀ b, b < wr.heap.size → lab b ≤ 5 → w5.heap[b]? = wr.heap[b]?) := by
  have hTlt : T < wr.heap.size := (Array.getElem?_eq_some_iff.1 hT).1
  have old : ∀ b, b < wr.heap.size → lab b ≠ 6 → lab b ≠ 7 → w5.heap[b]? = wr.heap[b]? := fun b hb n1 n3 => by
    refine hI.far b hb fun hs => ?_
    rcases hS b hs with e | e
    · exact n1 (by rw [e]; exact h1)
    · exact n3 (hl b e)
  have at_ : ∀ t b ob, γ t = some (b, ob) → w5.heap[b]? = some ob := fun t b ob ht => (hI.here t b ob ht).1
  have b1 : ∀ b, u.ownBlock = some b → ∃ ob, γ 1 = some (b, ob) := fun b hb => by
    rw [g1.block] at hb
    match hq : γ 1, hb with
    | some (g', o'), hb => simp only [Option.map_some, Option.some.injEq] at hb; exact ⟨o', by rw [hb]⟩
    | none, hb => simp at hb
  have b2 : ∀ b, v.ownBlock = some b → ∃ ob, γ 2 = some (b, ob) := fun b hb => by
    rw [g2.block] at hb
    match hq : γ 2, hb with
    | some (g', o'), hb => simp only [Option.map_some, Option.some.injEq] at hb; exact ⟨o', by rw [hb]⟩
    | none, hb => simp at hb
  have o1 : w5.ownsRow 0 25 1 u (s.l0.length + 1) (vs ++ [v]) := g1.owns fun g ob hg => ⟨Nat.zero_le _, at_ 1 g ob hg⟩
  have o2 : OwB w5 wr.heap.size v xs := g2.owns fun g ob hg => ⟨g2n g ob hg, at_ 2 g ob hg⟩
  refine ⟨fun b => if b < wr.heap.size then lab b else if v.ownBlock = some b then 9 else if u.ownBlock = some b then 7 else 0, fun b hb => if_pos hb, ?_, fun b hb hm => old b hb (by omega) (by omega)⟩
  refine ⟨u, v1, ?_, at_ 0 T _ g0, ⟨vs ++ [v], by simp [hvs], ?own, ?lab, ?inner⟩, ?oth⟩
  case own =>
    have : (s.l0 ++ [xs]).length = s.l0.length + 1 := by simp
    rw [this]
    exact o1
  case lab =>
    intro b hb
    obtain ⟨ob, hb1⟩ := b1 b hb
    show (if b < wr.heap.size then lab b else if v.ownBlock = some b then 9 else if u.ownBlock = some b then 7 else 0) = _
    by_cases hlt : b < wr.heap.size
    · rw [if_pos hlt]
      rcases hS b ((hI.here 1 b ob hb1).2 hlt) with e | e
      · exact absurd e (fun e => hI.apart 1 0 b T ob _ hb1 g0 (by decide) e)
      · exact hl b e
    · rw [if_neg hlt, if_neg (fun e2 => ?_), if_pos hb]
      obtain ⟨ob2, hb2⟩ := b2 b e2
      exact hI.apart 1 2 b b ob ob2 hb1 hb2 (by decide) rfl
  case inner =>
    intro i hi2
    have hi2 : i < s.l0.length + 1 := by simpa using hi2
    by_cases hil : i < s.l0.length
    · have e1 : (vs ++ [v]).getD i undef = vs.getD i undef := by rw [List.getD_eq_getElem?_getD, List.getD_eq_getElem?_getD, List.getElem?_append_left (by omega)]
      have e2 : (s.l0 ++ [xs]).getD i [] = s.l0.getD i [] := by rw [List.getD_eq_getElem?_getD, List.getD_eq_getElem?_getD, List.getElem?_append_left (by omega)]
      rw [e1, e2]
      obtain ⟨hB, hL⟩ := hi i hil
      refine ⟨hB.keep fun b h0 hb hlt => ?_, fun b h0 hb => ?_⟩
      · have := hL b h0 hb
        exact old b hlt (by omega) (by omega)
      · have hlt := hB.lt h0 hb
        show (if b < wr.heap.size then lab b else _) = _
        rw [if_pos hlt]
        exact hL b h0 hb
    · have hie : i = s.l0.length := by omega
      subst hie
      have e1 : (vs ++ [v]).getD s.l0.length undef = v := by rw [List.getD_eq_getElem?_getD, ← hvs]; simp
      have e2 : (s.l0 ++ [xs]).getD s.l0.length [] = xs := by rw [List.getD_eq_getElem?_getD]; simp
      rw [e1, e2]
      refine ⟨o2.rd hx hxl, fun b h0 hb => ?_⟩
      obtain ⟨ob, hb2⟩ := b2 b hb
      show (if b < wr.heap.size then lab b else if v.ownBlock = some b then 9 else _) = _
      rw [if_neg (by have := g2n b ob hb2; omega), if_pos hb]
  case oth => exact h5.keep (fun b hb hm => old b hb (by omega) (by omega)) (fun b hb => if_pos hb)
  show (if T < wr.heap.size then lab T else _) = _
  rw [if_pos hTlt]
  exact h1
theorem rpush1 {wr w5 : World} {S : Nat → Prop} {γ : Gh} {lab : Nat → Nat} {T : Nat} {s : NS} {v0 v1 v u : Value} {vs : List Value} {xs : List Int}
    (h1 : lab T = 6) (hT : wr.heap[T]? = some (.cells #[v0, .int .i64 s.n0, v1, .int .i64 s.n1] 43 (0, 0))) (hvs : vs.length = s.l1.length) (hl : ∀ b, v1.ownBlock = some b → lab b = 8)
    (hi : ∀ i, i < s.l1.length → BB wr (vs.getD i undef) (s.l1.getD i []) ∧ ∀ b, 0 < (s.l1.getD i []).length → (vs.getD i undef).ownBlock = some b → lab b = 9)
    (h5 : Rows_ wr lab 7 9 v0 s.l0) (hS : ∀ g, S g → g = T ∨ v1.ownBlock = some g) (hI : Inv wr S γ w5) (hx : okB xs) (hxl : xs.length ≤ 140737488355328)
    (g0 : γ 0 = some (T, .cells #[v0, .int .i64 s.n0, u, .int .i64 s.n1] 43 (0, 0))) (g1 : OwX 25 1 u (γ 1) (s.l1.length + 1) (vs ++ [v])) (g2 : OwX 5 1 v (γ 2) xs.length (xs.map (Value.int .u8))) (g2n : ∀ g ob, γ 2 = some (g, ob) → wr.heap.size ≤ g) :
    ∃ lab', (∀ b, b < wr.heap.size → lab' b = lab b) ∧ RNet w5 lab' T { s with l1 := s.l1 ++ [xs] } ∧ (∀ b, b < wr.heap.size → lab b ≤ 5 → w5.heap[b]? = wr.heap[b]?) := by
  have hTlt : T < wr.heap.size := (Array.getElem?_eq_some_iff.1 hT).1
  have old : ∀ b, b < wr.heap.size → lab b ≠ 6 → lab b ≠ 8 → w5.heap[b]? = wr.heap[b]? := fun b hb n1 n3 => by
    refine hI.far b hb fun hs => ?_
    rcases hS b hs with e | e
    · exact n1 (by rw [e]; exact h1)
    · exact n3 (hl b e)
  have at_ : ∀ t b ob, γ t = some (b, ob) → w5.heap[b]? = some ob := fun t b ob ht => (hI.here t b ob ht).1
  have b1 : ∀ b, u.ownBlock = some b → ∃ ob, γ 1 = some (b, ob) := fun b hb => by
    rw [g1.block] at hb
    match hq : γ 1, hb with
    | some (g', o'), hb => simp only [Option.map_some, Option.some.injEq] at hb; exact ⟨o', by rw [hb]⟩
    | none, hb => simp at hb
  have b2 : ∀ b, v.ownBlock = some b → ∃ ob, γ 2 = some (b, ob) := fun b hb => by
    rw [g2.block] at hb
    match hq : γ 2, hb with
    | some (g', o'), hb => simp only [Option.map_some, Option.some.injEq] at hb; exact ⟨o', by rw [hb]⟩
    | none, hb => simp at hb
  have o1 : w5.ownsRow 0 25 1 u (s.l1.length + 1) (vs ++ [v]) := g1.owns fun g ob hg => ⟨Nat.zero_le _, at_ 1 g ob hg⟩
  have o2 : OwB w5 wr.heap.size v xs := g2.owns fun g ob hg => ⟨g2n g ob hg, at_ 2 g ob hg⟩
  refine ⟨fun b => if b < wr.heap.size then lab b else if v.ownBlock = some b then 9 else if u.ownBlock = some b then 8 else 0, fun b hb => if_pos hb, ?_, fun b hb hm => old b hb (by omega) (by omega)⟩
  refine ⟨v0, u, ?_, at_ 0 T _ g0, ?oth, ⟨vs ++ [v], by simp [hvs], ?own, ?lab, ?inner⟩⟩
  case own =>
    have : (s.l1 ++ [xs]).length = s.l1.length + 1 := by simp
    rw [this]
    exact o1
  case lab =>
    intro b hb
    obtain ⟨ob, hb1⟩ := b1 b hb
    show (if b < wr.heap.size then lab b else if v.ownBlock = some b then 9 else if u.ownBlock = some b then 8 else 0) = _
    by_cases hlt : b < wr.heap.size
    · rw [if_pos hlt]
      rcases hS b ((hI.here 1 b ob hb1).2 hlt) with e | e
      · exact absurd e (fun e => hI.apart 1 0 b T ob _ hb1 g0 (by decide) e)
      · exact hl b e
    · rw [if_neg hlt, if_neg (fun e2 => ?_), if_pos hb]
      obtain ⟨ob2, hb2⟩ := b2 b e2
      exact hI.apart 1 2 b b ob ob2 hb1 hb2 (by decide) rfl
  case inner =>
    intro i hi2
    have hi2 : i < s.l1.length + 1 := by simpa using hi2
    by_cases hil : i < s.l1.length
    · have e1 : (vs ++ [v]).getD i undef = vs.getD i undef := by rw [List.getD_eq_getElem?_getD, List.getD_eq_getElem?_getD, List.getElem?_append_left (by omega)]
      have e2 : (s.l1 ++ [xs]).getD i [] = s.l1.getD i [] := by rw [List.getD_eq_getElem?_getD, List.getD_eq_getElem?_getD, List.getElem?_append_left (by omega)]
      rw [e1, e2]
      obtain ⟨hB, hL⟩ := hi i hil
      refine ⟨hB.keep fun b h0 hb hlt => ?_, fun b h0 hb => ?_⟩
      · have := hL b h0 hb
        exact old b hlt (by omega) (by omega)
      · have hlt := hB.lt h0 hb
        show (if b < wr.heap.size then lab b else _) = _
        rw [if_pos hlt]
        exact hL b h0 hb
    · have hie : i = s.l1.length := by omega
      subst hie
      have e1 : (vs ++ [v]).getD s.l1.length undef = v := by rw [List.getD_eq_getElem?_getD, ← hvs]; simp
      have e2 : (s.l1 ++ [xs]).getD s.l1.length [] = xs := by rw [List.getD_eq_getElem?_getD]; simp
      rw [e1, e2]
      refine ⟨o2.rd hx hxl, fun b h0 hb => ?_⟩
      obtain ⟨ob, hb2⟩ := b2 b hb
      show (if b < wr.heap.size then lab b else if v.ownBlock = some b then 9 else _) = _
      rw [if_neg (by have := g2n b ob hb2; omega), if_pos hb]
  case oth => exact h5.keep (fun b hb hm => old b hb (by omega) (by omega)) (fun b hb => if_pos hb)
  show (if T < wr.heap.size then lab T else _) = _
  rw [if_pos hTlt]
  exact h1
theorem ns_half (s : NS) {sd : Int} (hs : sd = 1 ∨ sd = 2) (K : List (List Int)) (n : Nat) : (s.add sd K).half sd = s.half sd ++ K ∧ (s.add sd K).next sd = s.next sd ∧ (s.to sd n).half sd = s.half sd ∧ (s.to sd n).next sd = n ∧ (s.add sd []) = s ∧ (s.to sd (s.next sd)) = s := by
  rcases hs with rfl | rfl <;> (refine ⟨?_, ?_, ?_, ?_, ?_, ?_⟩ <;> simp [NS.add, NS.half, NS.next, NS.to])
theorem ns_len (s : NS) {sd : Int} (hs : sd = 1 ∨ sd = 2) (K : List (List Int)) (n : Nat) : (s.add sd K).l0.length + (s.add sd K).l1.length = s.l0.length + s.l1.length + K.length ∧ (s.to sd n).l0.length + (s.to sd n).l1.length = s.l0.length + s.l1.length := by
  rcases hs with rfl | rfl <;> (refine ⟨?_, ?_⟩ <;> simp [NS.add, NS.to] <;> omega)
theorem ns_add2 (s : NS) {sd : Int} (hs : sd = 1 ∨ sd = 2) (A B : List (List Int)) : (s.add sd A).add sd B = s.add sd (A ++ B) := by
  rcases hs with rfl | rfl <;> simp [NS.add]
theorem ns_mem (s : NS) {sd : Int} (hs : sd = 1 ∨ sd = 2) (xs : List Int) : s.mem sd xs = decide (xs ∈ s.half sd) := by
  rcases hs with rfl | rfl <;> simp [NS.mem, NS.half]
theorem net_next {w : World} {lab : Nat → Nat} {N : Nat} {s : NS} (h : Net w lab N s) {sd : Int} (hs : sd = 1 ∨ sd = 2) : s.next sd ≤ (s.half sd).length := by
  obtain ⟨_, _, _, _, _, _, _, _, _, h7, h8⟩ := h
  rcases hs with rfl | rfl
  · exact h7
  · exact h8
theorem put_any (lab : Nat → Nat) (N : Nat) (s : NS) (sd : Int) (l : Value) (K : List (List Int)) (w : World) (h : Net w lab N s) (hs : sd = 1 ∨ sd = 2) (hl : LR w lab l K) (hn : (s.l0.length + s.l1.length + K.length) * 24 ≤ 140737488355328) :
    Calls Try.prog 8 #[.pointer (some ⟨N, 0, none⟩), .int .u8 sd, l] w fun e w' => e = .returned (.int .i64 0) ∧ ∃ lab', (∀ g, g < w.heap.size → lab' g = lab g) ∧ Net w' lab' N (s.add sd K) ∧ Fr lab w w' := by
  rcases hs with rfl | rfl
  · exact put_1 lab N s 1 l K w h rfl hl hn
  · exact put_2 lab N s 2 l K w h rfl hl hn
end Go.Proofs.Ythebhbcfacoknaa
