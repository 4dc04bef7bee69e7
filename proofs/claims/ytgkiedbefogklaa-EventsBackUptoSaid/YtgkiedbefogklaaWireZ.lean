/- What is proved: what the event of the reference's reader answers; conditions: those typed. -/
import Derived.Test.YtgkiedbefogklaaWireQ
set_option linter.unusedSimpArgs false
set_option linter.unusedVariables false
namespace Go.Proofs.Ytgkiedbefogklaa
open Go.RowKit
set_option maxRecDepth 100000
set_option maxHeartbeats 8000000
theorem rawE_err {lo hi : Nat} {bs : List Int} {e : Nat} (he : numE bs e ≠ 0) : rawE lo hi bs e = numE bs e := by unfold rawE; rw [if_pos he]
theorem numE_err {bs : List Int} {e : Nat} (he : e ≠ 0) : numE bs e = e := by unfold numE; rw [if_neg he]
theorem endE_err {bs : List Int} {e : Nat} (he : e ≠ 0) : endE bs e = e := by unfold endE; rw [if_neg (fun h => he h.1)]
theorem RR.low {w w' : World} {R : Nat} {bs : List Int} {e : Nat} (h : RR w R bs e) (hk : ∀ g, g ≤ R → w'.heap[g]? = w.heap[g]?) : RR w' R bs e := by
  obtain ⟨v, hv, hb, hne⟩ := h
  exact ⟨v, (hk R (Nat.le_refl _)).trans hv, hb.keep fun b hn hvb _ => hk b (Nat.le_of_lt (hne hn b hvb)), hne⟩
theorem RR.open {w : World} {R : Nat} {bs : List Int} {e : Nat} (h : RR w R bs e) : ∃ A l cap, l = bs.length ∧ w.heap[R]? = some (.cells #[.slice A l cap, .int .i64 e] 72 (0, 0)) ∧ BB w (.slice A l cap) bs ∧ (0 < bs.length → ∀ b, (Value.slice A l cap).ownBlock = some b → b < R) ∧ l ≤ cap ∧ cap ≤ maxLen ∧ l ≤ 140737488355328 ∧ RdI w .u8 A l bs := by
  obtain ⟨v, h1, h2, h3⟩ := h
  have h4 := h2
  obtain ⟨hx, hl, A, cap, rfl, hr, hnc, hlc, hcm⟩ := h2
  exact ⟨A, _, cap, rfl, h1, h4, h3, hlc, hcm, hl, hr⟩
/-- The worlds of event. -/
structure RS (w W : World) (R B X : Nat) (b : List Int) (e : Nat) (row : Array Value) : Prop where
  inv : Inv w (fun g => g = R) gh0 W
  rr : RR W R b e
  rb : W.heap[B]? = some (.cells #[.int .u8 0, .slice none 0 0, .int .i64 0, .int .i64 0, .int .u8 0] 48 (0, 0))
  xb : W.heap[X]? = some (.cells row 48 (0, 0))
  lo : w.heap.size = B ∧ R < B ∧ B < X
section
variable {w W W' : World} {R B X : Nat} {b b' : List Int} {e e' : Nat} {row : Array Value}
theorem Inv.grownR {w W : World} {R : Nat} (h : Inv w (fun g => g = R) gh0 W) : w.grownBy W (some R) :=
  ⟨h.os, h.tape, h.output, h.size, fun q hq hne => h.far q hq (fun e => hne (by rw [e]))⟩
theorem RS.step (h : RS w W R B X b e row) (hg : W.grownBy W' (some R)) (hr : RR W' R b' e') : RS w W' R B X b' e' row where
  inv := h.inv.then (Inv.ofGrown (S := fun g => g = R) hg (fun g hg => (Option.some.inj hg).symm)) (fun g hg _ => hg)
  rr := hr
  rb := (hg.block B (lt_of_heap h.rb) (fun e => by have := Option.some.inj e; have := h.lo; omega)).trans h.rb
  xb := (hg.block X (lt_of_heap h.xb) (fun e => by have := Option.some.inj e; have := h.lo; omega)).trans h.xb
  lo := h.lo
theorem RS.setX (h : RS w W R B X b e row) (i : Nat) (u : Value) : RS w (W.setCell ⟨X, i, none⟩ u) R B X b e (row.setIfInBounds i u) := by
  have hk : ∀ g, g ≠ X → (W.setCell ⟨X, i, none⟩ u).heap[g]? = W.heap[g]? := fun g hg => heap_setCell_other _ ⟨_, _, _⟩ _ _ hg
  have hl := h.lo
  refine ⟨?_, h.rr.low fun g hg => hk g (by omega), (hk _ (by omega)).trans h.rb, heap_setCell_same _ _ _ _ _ _ h.xb, hl⟩
  refine ⟨h.inv.os, h.inv.tape, h.inv.output, by rw [World.size_setCell]; exact h.inv.size, fun k hkk hn => (hk k (by omega)).trans (h.inv.far k hkk hn), ?_, ?_⟩
  · intro t g o e; cases e
  · intro t t' g g' o o' e; cases e
theorem RS.err (h : RS w W R B X b e row) (er : Nat) : RS w (W.setCell ⟨R, 1, none⟩ (.int .i64 er)) R B X b er row := by
  obtain ⟨v, h1, h2, h3⟩ := h.rr
  exact h.step grown_at (RR.errAt h1 h2 h3)
theorem RS.below (h : RS w W R B X b e row) (hb : Below W.heap.size W W') : RS w W' R B X b e row := h.step (grown_of_below hb) (h.rr.below hb)
end
/-- What the reference's event answers. -/
def EvR (w : World) (R : Nat) (bs : List Int) (r : Ending) (w' : World) : Prop :=
  ∃ (p : HE) (b' : List Int), r = .returned (.agg (erow p)) ∧ EvP w' w.heap.size p ∧ ((evT bs).1 = 0 → p.e = (evT bs).2.1 ∧ b' = (evT bs).2.2) ∧ RR w' R b' (evT bs).1 ∧ w.grownBy w' (some R)
theorem EvR.make {w W : World} {R B X : Nat} {bs b' : List Int} {er : Nat} {p : HE} {e' : Event} {r' : List Int} (ht : evT bs = (er, e', r')) (hs : RS w W R B X b' er (erow p)) (h0 : er = 0 → p.e = e' ∧ b' = r') (ho : OwB W w.heap.size p.v p.e.bs) (hb : okB p.e.bs) (hl : p.e.bs.length ≤ 140737488355328) (hk : p.e.ok) (row2 : Array Value) :
    EvR w R bs (.returned (.agg (erow p))) (W.setRow B row2) := by
  have hlo := hs.lo
  have hkk : ∀ g, g ≠ B → (W.setRow B row2).heap[g]? = W.heap[g]? := fun g hg => setRow_other _ _ _ _ hg
  refine ⟨p, b', rfl, ⟨ho.keep fun b hb2 _ => hkk b (fun e => ?_), hb, hl, hk⟩, by rw [ht]; exact h0, by rw [ht]; exact hs.rr.low fun g hg => hkk g (by omega), ?_⟩
  · subst e
    obtain ⟨_, cur, h4⟩ := own_typed ho hb2
    rw [hs.rb] at h4
    simp at h4
  · have hi := hs.inv
    refine ⟨hi.os, hi.tape, hi.output, by rw [size_setRow]; exact hi.size, fun q hq hne => (hkk q (by omega)).trans (hi.far q hq (fun e => hne (by rw [e])))⟩
theorem rawE0 (lo hi : Nat) (r : List Int) {n c er : Nat} (hs : readS r = (n, c, er)) : rawE lo hi r 0 = (if er ≠ 0 then er else if n < lo ∨ hi < n then 8 else if (r.drop c).length < n then 7 else 0) := by
  unfold rawE numE numV numB
  rw [hs]
  dsimp only
  rw [if_pos rfl]
  by_cases he : er = 0
  · subst he
    simp
  · rw [if_pos he, if_pos he]
/-- Bytes of an event, as the reference reads them. -/
theorem evT_raw {bs r : List Int} {k : Int} {lo : Nat} (h : 0 < bs.length) (hk : bs.getD 0 0 = k) (hk2 : (k = 1 ∧ lo = 1) ∨ (k = 3 ∧ lo = 0)) (hr : bs.drop 1 = r) : ∃ e' r', evT bs = (rawE lo 4096 r 0, e', r') ∧ (rawE lo 4096 r 0 = 0 → (⟨k, rawX lo 4096 r 0, 0, 0, 0⟩ : Event) = e' ∧ rawB lo 4096 r 0 = r') := by
  obtain ⟨⟨n, c, er⟩, hs⟩ : ∃ s, readS r = s := ⟨_, rfl⟩
  have hE := rawE0 lo 4096 r hs
  by_cases he : er = 0
  · subst he
    rw [if_neg (by simp)] at hE
    by_cases hb : n < lo ∨ 4096 < n
    · rw [if_pos hb] at hE
      rw [hE]
      exact ⟨_, _, evT_big h hk (by omega) hr hs (by omega), fun h => by cases h⟩
    · rw [if_neg hb] at hE
      by_cases hl : (r.drop c).length < n
      · rw [if_pos hl] at hE
        rw [hE]
        exact ⟨_, _, evT_few h hk (by omega) hr hs rfl (by omega) hl, fun h => by cases h⟩
      · rw [if_neg hl] at hE
        have hV : numV r 0 = n := by unfold numV; rw [hs]; exact if_pos ⟨rfl, rfl⟩
        have hB : numB r 0 = r.drop c := by unfold numB; rw [hs]; exact if_pos ⟨rfl, rfl⟩
        have hX : rawX lo 4096 r 0 = (r.drop c).take n := by unfold rawX; rw [hE, if_pos rfl, hV, hB]
        have hB2 : rawB lo 4096 r 0 = (r.drop c).drop n := by unfold rawB; rw [hE, if_pos rfl, hV, hB]
        rw [hE, hX, hB2]
        exact ⟨_, _, evT_bytes h hk (by omega) hr hs rfl (by omega) hl, fun _ => ⟨rfl, rfl⟩⟩
  · rw [if_pos he] at hE
    rw [hE]
    exact ⟨_, _, evT_num h hk (by omega) hr hs he, fun h => absurd h he⟩
theorem rawX_ok {lo hi e : Nat} {r : List Int} (h : okB r) : okB (rawX lo hi r e) ∧ (rawX lo hi r e).length ≤ r.length := by
  unfold rawX
  split
  · have h1 : okB (numB r e) ∧ (numB r e).length ≤ r.length := by
      unfold numB
      split
      · exact ⟨h.drop _, by rw [List.length_drop]; omega⟩
      · exact ⟨h, Nat.le_refl _⟩
    exact ⟨h1.1.take _, by rw [List.length_take]; omega⟩
  · exact ⟨okB.nil, by simp⟩
/-- Two numbers of an event, as the reference reads them. -/
theorem evT_sz {bs r : List Int} {e2 n m : Nat} (h : 0 < bs.length) (hk : bs.getD 0 0 = 2) (hr : bs.drop 1 = r) (hn : numV r 0 = n) (hm : numV (numB r 0) (numE r 0) = m) (he : numE (numB r 0) (numE r 0) = e2) :
    ∃ e' r', evT bs = ((if e2 ≠ 0 then e2 else if n < 1 ∨ 512 < n ∨ m < 1 ∨ 512 < m then 8 else 0), e', r') ∧ ((e2 = 0 ∧ ¬ (n < 1 ∨ 512 < n ∨ m < 1 ∨ 512 < m)) → (⟨2, [], n, m, 0⟩ : Event) = e' ∧ numB (numB r 0) (numE r 0) = r') := by
  obtain ⟨⟨n1, c1, er⟩, hs⟩ : ∃ s, readS r = s := ⟨_, rfl⟩
  by_cases he1 : er = 0
  · subst he1
    have h1 : numV r 0 = n1 := by unfold numV; rw [hs]; exact if_pos ⟨rfl, rfl⟩
    have h2 : numB r 0 = r.drop c1 := by unfold numB; rw [hs]; exact if_pos ⟨rfl, rfl⟩
    have h3 : numE r 0 = 0 := by unfold numE; rw [hs]; exact if_pos rfl
    rw [h2, h3] at hm he
    rw [h2, h3]
    rw [h1] at hn
    subst hn
    obtain ⟨⟨m1, c2, er2⟩, hs2⟩ : ∃ s, readS (r.drop c1) = s := ⟨_, rfl⟩
    have k3 : numE (r.drop c1) 0 = er2 := by unfold numE; rw [hs2]; exact if_pos rfl
    rw [k3] at he
    subst he
    by_cases he2 : er2 = 0
    · subst he2
      have k1 : numV (r.drop c1) 0 = m1 := by unfold numV; rw [hs2]; exact if_pos ⟨rfl, rfl⟩
      have k2 : numB (r.drop c1) 0 = (r.drop c1).drop c2 := by unfold numB; rw [hs2]; exact if_pos ⟨rfl, rfl⟩
      rw [k1] at hm
      subst hm
      rw [k2, if_neg (by simp)]
      by_cases hb : n1 < 1 ∨ 512 < n1 ∨ m1 < 1 ∨ 512 < m1
      · rw [if_pos hb]
        exact ⟨_, _, evT_side h hk hr hs rfl hs2 hb, fun h => absurd hb h.2⟩
      · rw [if_neg hb]
        exact ⟨_, _, evT_sides h hk hr hs rfl hs2 hb, fun _ => ⟨rfl, rfl⟩⟩
    · rw [if_pos he2]
      exact ⟨_, _, evT_num2 h hk hr hs rfl hs2 he2, fun h => absurd h.1 he2⟩
  · have h3 : numE r 0 = er := by unfold numE; rw [hs]; exact if_pos rfl
    rw [h3] at he
    have h4 : numE (numB r 0) er = er := numE_err he1
    rw [h4] at he
    subst he
    rw [if_pos he1]
    exact ⟨_, _, evT_num h hk (by omega) hr hs he1, fun h => absurd h.1 he1⟩
theorem revent_any (R : Nat) (bs : List Int) (w : World) (h : RR w R bs 0) : Calls Try.prog 48 #[.pointer (some ⟨R, 0, none⟩)] w (EvR w R bs) := by
  have hz : ∀ w, (zeroValue 48).run Try.prog w = .ok (.agg #[.int .u8 0, .slice none 0 0, .int .i64 0, .int .i64 0, .int .u8 0]) w := zero_ev
  obtain ⟨B, hB⟩ : ∃ B, w.heap.size = B := ⟨_, rfl⟩
  have HOK := Lib.hid h.ok
  have hRB := h.lt
  obtain ⟨X, hX⟩ : ∃ X, B + 1 = X := ⟨_, rfl⟩
  obtain ⟨Wa, hWa⟩ : ∃ W, w.alloc (.cells #[.int .u8 0, .slice none 0 0, .int .i64 0, .int .i64 0, .int .u8 0] 48) = W := ⟨_, rfl⟩
  have hXa : Wa.heap.size = X := by rw [← hWa, ← hX, ← hB]; simp
  obtain ⟨W, hW⟩ : ∃ W, Wa.alloc (.cells #[.int .u8 0, .slice none 0 0, .int .i64 0, .int .i64 0, .int .u8 0] 48) = W := ⟨_, rfl⟩
  have hXW : W.heap.size = X + 1 := by rw [← hW]; simp [hXa]
  have h0 : Below w.heap.size w Wa := by rw [← hWa]; exact Below.alloc (Below.refl _ _) (Nat.le_refl _) _
  have h1 : Below w.heap.size w W := by rw [← hW]; exact Below.alloc h0 h0.size _
  have HS0 : Hid (RS w W R B X bs 0 #[.int .u8 0, .slice none 0 0, .int .i64 0, .int .i64 0, .int .u8 0]) := Lib.hid ⟨Inv.ofBelow h1, h.below h1, by rw [← hW, heap_alloc_old _ _ (by omega), ← hWa, ← hB]; exact heap_alloc_last _ _, by rw [← hW, ← hXa]; exact heap_alloc_last _ _, hB, by omega, by omega⟩
  obtain ⟨A, l, cap, hl, hrow, hbb, hne, hlc, hcm, hlm, hrd⟩ := HS0.out.rr.open
  have HROW := Lib.hid hrow
  have HBB := Lib.hid hbb
  have HNE := Lib.hid hne
  have HLN := Lib.hid hl
  have HRDI := Lib.hid hrd
  have c0 : W.cell? ⟨R, 0, none⟩ = some (.slice A l cap) := (cell_of_row _ _ _ _ _ _ hrow).trans rfl
  have c1 : W.cell? ⟨R, 1, none⟩ = some (.int .i64 0) := (cell_of_row _ _ _ _ _ _ hrow).trans rfl
  have hf1 : W.frozen? ⟨R, 1, none⟩ = false := frozen_of_row W R 1 _ _ hrow
  have hf0 : W.frozen? ⟨R, 0, none⟩ = false := frozen_of_row W R 0 _ _ hrow
  have hRl := lt_of_heap hrow
  have HLO := Lib.hid HS0.out.lo
  clear h h0 h1 hrow hbb hne hl hrd
  rw [hB] at hRB
  by_cases h0 : l = 0
  · have h0i : ((l : Int) == 0) = true := by simpa using h0
    subst h0
    have HT := Lib.hid (evT_nil (bs := bs) HLN.out.symm)
    obtain ⟨w5, hw5⟩ : ∃ w5, W.setCell ⟨R, 1, none⟩ (.int .i64 7) = w5 := ⟨_, rfl⟩
    have HS5 : Hid (RS w w5 R B X bs 7 #[.int .u8 0, .slice none 0 0, .int .i64 0, .int .i64 0, .int .u8 0]) := Lib.hid (by rw [← hw5]; exact HS0.out.err 7)
    go_enter Try.func48, Try.ntmps48
    go_wp2_with (first | (with_reducible refine wpList_ldB (row := #[.int .u8 0, .slice none 0 0, .int .i64 0, .int .i64 0, .int .u8 0]) evInfo evRow rfl (.tmp 3) rfl rfl HS5.out.xb ?_) | (with_reducible refine wpList_stB (row := #[.int .u8 0, .slice none 0 0, .int .i64 0, .int .i64 0, .int .u8 0]) evInfo (by simp [Value.oneCell']) rfl (.tmp 2) (.tmp 21) rfl rfl rfl HS5.out.rb rfl ?_))
    refine bodyPost_ret (v := .agg #[.int .u8 0, .slice none 0 0, .int .i64 0, .int .i64 0, .int .u8 0]) ?_ rfl ?_
    · exact results_blk (fn := Try.f48) Try.results48 rfl (run_loadVar_blk evInfo evRow (setRow_heap _ _ _ _ _ _ HS5.out.rb))
    · exact EvR.make (p := ⟨zE, .slice none 0 0⟩) HT.out HS5.out (fun h => by cases h) (OwB.nil _ _) okB.nil (by first | (simp; done) | (simp [zE]; done)) (by simp [zE, Event.ok]) _
  · have h0i : ¬ (l : Int) = 0 := by omega
    have h0b : ((l : Int) == 0) = false := by simpa using h0
    obtain ⟨b, off, rfl, hc⟩ := HRDI.out.2 (by omega)
    have cb := hc 0 (by omega)
    rw [Nat.add_zero] at cb
    obtain ⟨k, hk⟩ : ∃ k, bs.getD 0 0 = k := ⟨_, rfl⟩
    rw [hk] at cb
    obtain ⟨r, hr⟩ : ∃ r, bs.drop 1 = r := ⟨_, rfl⟩
    have HK := Lib.hid (show bs.getD 0 0 = k ∧ bs.drop 1 = r ∧ 0 < bs.length from ⟨hk, hr, by have := HLN.out; omega⟩)
    have hk0 := HOK.out.getD 0
    rw [hk] at hk0
    have hbl := block_lt_of_cell cb
    have hrr : ∀ W, (Instr.sliceAt 24 (.slice (some ⟨b, off, none⟩) l cap) (some (.int .i64 1)) none none).run Try.prog W = .ok (.slice (restA (some ⟨b, off, none⟩) cap 1) (l - 1) (cap - 1)) W := fun W => run_restAt (some ⟨b, off, none⟩) l cap 1 (by omega) W
    have d0 : W.cell? ⟨X, 0, none⟩ = some (.int .u8 0) := (cell_of_row _ _ _ _ _ _ HS0.out.xb).trans rfl
    have hfx : W.frozen? ⟨X, 0, none⟩ = false := frozen_of_row W X 0 _ _ HS0.out.xb
    have hXl := lt_of_heap HS0.out.xb
    obtain ⟨W1, hW1⟩ : ∃ W1, W.setCell ⟨X, 0, none⟩ (.int .u8 k) = W1 := ⟨_, rfl⟩
    have HS1 : Hid (RS w W1 R B X bs 0 #[.int .u8 k, .slice none 0 0, .int .i64 0, .int .i64 0, .int .u8 0]) := Lib.hid (by rw [← hW1]; exact HS0.out.setX 0 (.int .u8 k))
    have hkk : ∀ g, g ≠ X → W1.heap[g]? = W.heap[g]? := fun g hg => by rw [← hW1]; exact heap_setCell_other _ ⟨_, _, _⟩ _ _ hg
    have HROW1 := Lib.hid ((hkk R (by have := HLO.out; omega)).trans HROW.out)
    have HBB1 : Hid (BB W1 (.slice (some ⟨b, off, none⟩) l cap) bs) := Lib.hid (HBB.out.keep fun q hn hq _ => hkk q (by have := HNE.out hn q hq; have := HLO.out; omega))
    have e0 : W1.cell? ⟨R, 0, none⟩ = some (.slice (some ⟨b, off, none⟩) l cap) := (cell_of_row _ _ _ _ _ _ HROW1.out).trans rfl
    have hfe : W1.frozen? ⟨R, 0, none⟩ = false := frozen_of_row W1 R 0 _ _ HROW1.out
    have hRl1 := lt_of_heap HROW1.out
    obtain ⟨w2, hw2⟩ : ∃ w2, W1.setCell ⟨R, 0, none⟩ (.slice (restA (some ⟨b, off, none⟩) cap 1) (l - 1) (cap - 1)) = w2 := ⟨_, rfl⟩
    have HS2 : Hid (RS w w2 R B X r 0 #[.int .u8 k, .slice none 0 0, .int .i64 0, .int .i64 0, .int .u8 0]) := Lib.hid (by
      rw [← hw2, ← hr]
      exact HS1.out.step grown_at (RR.cutAt HROW1.out HBB1.out HNE.out (by have := HLN.out; omega)))
    have f0 : w2.cell? ⟨X, 0, none⟩ = some (.int .u8 k) := (cell_of_row _ _ _ _ _ _ HS2.out.xb).trans rfl
    clear hc hk hr hkk HS1 HBB1 HBB HS0 HRDI
    by_cases q1 : k = 1
    · subst q1
      obtain ⟨e', r', ht, ht0⟩ := evT_raw (lo := 1) HK.out.2.2 HK.out.1 (by omega) HK.out.2.1
      have HT := Lib.hid ht
      have HT0 := Lib.hid ht0
      have HX9 := Lib.hid (rawX_ok (lo := 1) (hi := 4096) (e := 0) HS2.out.rr.ok)
      have HRAW : Hid (Calls Try.prog 59 #[.pointer (some ⟨R, 0, none⟩), .int .u64 1, .int .u64 4096] w2 (RawR w2 R 1 4096 r 0)) := Lib.hid (raw_any R 1 4096 r 0 w2 HS2.out.rr (by decide) (by decide))
      have hrl : r.length ≤ 140737488355328 := by obtain ⟨_, _, hb, _⟩ := HS2.out.rr; exact hb.len
      clear ht ht0
      obtain ⟨er, her⟩ : ∃ er, rawE 1 4096 r 0 = er := ⟨_, rfl⟩
      obtain ⟨xs, hxs⟩ : ∃ xs, rawX 1 4096 r 0 = xs := ⟨_, rfl⟩
      obtain ⟨b2, hb2⟩ : ∃ b2, rawB 1 4096 r 0 = b2 := ⟨_, rfl⟩
      have HQ : Hid (∀ e w', RawR w2 R 1 4096 r 0 e w' → (∃ u, e = .returned u ∧ OwB w' w2.heap.size u xs) ∧ RR w' R b2 er ∧ w2.grownBy w' (some R)) := Lib.hid (fun e w' h => by unfold RawR at h; rwa [her, hxs, hb2] at h)
      rw [her, hxs, hb2] at HT0
      rw [her] at HT
      rw [hxs] at HX9
      clear her hxs hb2
      go_enter Try.func48, Try.ntmps48
      go_wp2_with fail
      refine HRAW.out.mono ?_
      rintro e w3 hN
      obtain ⟨⟨u, rfl, ho⟩, hrr3, hg⟩ := HQ.out _ _ hN
      obtain ⟨A9, n9, c9, rfl⟩ := ho.form
      have HS3 := Lib.hid (HS2.out.step hg hrr3)
      have g1 : w3.cell? ⟨X, 1, none⟩ = some (.slice none 0 0) := (cell_of_row _ _ _ _ _ _ HS3.out.xb).trans rfl
      have gf : w3.frozen? ⟨X, 1, none⟩ = false := frozen_of_row w3 X 1 _ _ HS3.out.xb
      have gl := lt_of_heap HS3.out.xb
      obtain ⟨w4, hw4⟩ : ∃ w4, w3.setCell ⟨X, 1, none⟩ (.slice A9 n9 c9) = w4 := ⟨_, rfl⟩
      have HS4 : Hid (RS w w4 R B X b2 er #[.int .u8 1, .slice A9 n9 c9, .int .i64 0, .int .i64 0, .int .u8 0]) := Lib.hid (by rw [← hw4]; exact HS3.out.setX 1 (.slice A9 n9 c9))
      have HO4 : Hid (OwB w4 w.heap.size (.slice A9 n9 c9) xs) := Lib.hid (by
        rw [← hw4]
        refine (ho.keep fun q hq hl => heap_setCell_other _ ⟨_, _, _⟩ _ _ (fun e => ?_)).mono HS2.out.inv.size
        have e : q = X := by simpa using e
        subst e
        obtain ⟨_, cur, h4⟩ := own_typed ho hq
        rw [HS3.out.xb] at h4
        simp at h4)
      clear ho hrr3 hg hN HS3
      go_wp2_with (first | (with_reducible refine wpList_ldB (row := #[.int .u8 1, .slice A9 n9 c9, .int .i64 0, .int .i64 0, .int .u8 0]) evInfo evRow rfl (.tmp 3) rfl rfl HS4.out.xb ?_) | (with_reducible refine wpList_stB (row := #[.int .u8 1, .slice A9 n9 c9, .int .i64 0, .int .i64 0, .int .u8 0]) evInfo (by simp [Value.oneCell']) rfl (.tmp 2) (.tmp 123) rfl rfl rfl HS4.out.rb rfl ?_))
      refine bodyPost_ret (v := .agg #[.int .u8 1, .slice A9 n9 c9, .int .i64 0, .int .i64 0, .int .u8 0]) ?_ rfl ?_
      · exact results_blk (fn := Try.f48) Try.results48 rfl (run_loadVar_blk evInfo evRow (setRow_heap _ _ _ _ _ _ HS4.out.rb))
      · exact EvR.make (p := ⟨⟨1, xs, 0, 0, 0⟩, .slice A9 n9 c9⟩) HT.out HS4.out HT0.out HO4.out HX9.out.1 (by have := HX9.out; show xs.length ≤ _; omega) (by simp [Event.ok]) _
    · by_cases q3 : k = 3
      · subst q3
        obtain ⟨e', r', ht, ht0⟩ := evT_raw (lo := 0) HK.out.2.2 HK.out.1 (by omega) HK.out.2.1
        have HT := Lib.hid ht
        have HT0 := Lib.hid ht0
        have HX9 := Lib.hid (rawX_ok (lo := 0) (hi := 4096) (e := 0) HS2.out.rr.ok)
        have HRAW : Hid (Calls Try.prog 59 #[.pointer (some ⟨R, 0, none⟩), .int .u64 0, .int .u64 4096] w2 (RawR w2 R 0 4096 r 0)) := Lib.hid (raw_any R 0 4096 r 0 w2 HS2.out.rr (by decide) (by decide))
        have hrl : r.length ≤ 140737488355328 := by obtain ⟨_, _, hb, _⟩ := HS2.out.rr; exact hb.len
        clear ht ht0
        obtain ⟨er, her⟩ : ∃ er, rawE 0 4096 r 0 = er := ⟨_, rfl⟩
        obtain ⟨xs, hxs⟩ : ∃ xs, rawX 0 4096 r 0 = xs := ⟨_, rfl⟩
        obtain ⟨b2, hb2⟩ : ∃ b2, rawB 0 4096 r 0 = b2 := ⟨_, rfl⟩
        have HQ : Hid (∀ e w', RawR w2 R 0 4096 r 0 e w' → (∃ u, e = .returned u ∧ OwB w' w2.heap.size u xs) ∧ RR w' R b2 er ∧ w2.grownBy w' (some R)) := Lib.hid (fun e w' h => by unfold RawR at h; rwa [her, hxs, hb2] at h)
        rw [her, hxs, hb2] at HT0
        rw [her] at HT
        rw [hxs] at HX9
        clear her hxs hb2
        go_enter Try.func48, Try.ntmps48
        go_wp2_with fail
        refine HRAW.out.mono ?_
        rintro e w3 hN
        obtain ⟨⟨u, rfl, ho⟩, hrr3, hg⟩ := HQ.out _ _ hN
        obtain ⟨A9, n9, c9, rfl⟩ := ho.form
        have HS3 := Lib.hid (HS2.out.step hg hrr3)
        have g1 : w3.cell? ⟨X, 1, none⟩ = some (.slice none 0 0) := (cell_of_row _ _ _ _ _ _ HS3.out.xb).trans rfl
        have gf : w3.frozen? ⟨X, 1, none⟩ = false := frozen_of_row w3 X 1 _ _ HS3.out.xb
        have gl := lt_of_heap HS3.out.xb
        obtain ⟨w4, hw4⟩ : ∃ w4, w3.setCell ⟨X, 1, none⟩ (.slice A9 n9 c9) = w4 := ⟨_, rfl⟩
        have HS4 : Hid (RS w w4 R B X b2 er #[.int .u8 3, .slice A9 n9 c9, .int .i64 0, .int .i64 0, .int .u8 0]) := Lib.hid (by rw [← hw4]; exact HS3.out.setX 1 (.slice A9 n9 c9))
        have HO4 : Hid (OwB w4 w.heap.size (.slice A9 n9 c9) xs) := Lib.hid (by
          rw [← hw4]
          refine (ho.keep fun q hq hl => heap_setCell_other _ ⟨_, _, _⟩ _ _ (fun e => ?_)).mono HS2.out.inv.size
          have e : q = X := by simpa using e
          subst e
          obtain ⟨_, cur, h4⟩ := own_typed ho hq
          rw [HS3.out.xb] at h4
          simp at h4)
        clear ho hrr3 hg hN HS3
        go_wp2_with (first | (with_reducible refine wpList_ldB (row := #[.int .u8 3, .slice A9 n9 c9, .int .i64 0, .int .i64 0, .int .u8 0]) evInfo evRow rfl (.tmp 3) rfl rfl HS4.out.xb ?_) | (with_reducible refine wpList_stB (row := #[.int .u8 3, .slice A9 n9 c9, .int .i64 0, .int .i64 0, .int .u8 0]) evInfo (by simp [Value.oneCell']) rfl (.tmp 2) (.tmp 123) rfl rfl rfl HS4.out.rb rfl ?_))
        refine bodyPost_ret (v := .agg #[.int .u8 3, .slice A9 n9 c9, .int .i64 0, .int .i64 0, .int .u8 0]) ?_ rfl ?_
        · exact results_blk (fn := Try.f48) Try.results48 rfl (run_loadVar_blk evInfo evRow (setRow_heap _ _ _ _ _ _ HS4.out.rb))
        · exact EvR.make (p := ⟨⟨3, xs, 0, 0, 0⟩, .slice A9 n9 c9⟩) HT.out HS4.out HT0.out HO4.out HX9.out.1 (by have := HX9.out; show xs.length ≤ _; omega) (by simp [Event.ok]) _
      · by_cases q2 : k = 2
        · subst q2
          obtain ⟨n, hn⟩ : ∃ n, numV r 0 = n := ⟨_, rfl⟩
          obtain ⟨m, hm⟩ : ∃ n, numV (numB r 0) (numE r 0) = n := ⟨_, rfl⟩
          obtain ⟨e2, he2⟩ : ∃ n, numE (numB r 0) (numE r 0) = n := ⟨_, rfl⟩
          obtain ⟨e', r', ht, ht0⟩ := evT_sz HK.out.2.2 HK.out.1 HK.out.2.1 hn hm he2
          have HT := Lib.hid ht
          have HT0 := Lib.hid ht0
          have HNL : Hid (n < 18446744073709551616) := Lib.hid (by rw [← hn]; exact numV_lt HS2.out.rr.ok 0)
          have HN1 : Hid (∀ e w', NumR w2 R r 0 e w' → e = .returned (.int .u64 n) ∧ RR w' R (numB r 0) (numE r 0) ∧ w2.grownBy w' (some R)) := Lib.hid (fun e w' h => by unfold NumR at h; rwa [hn] at h)
          have HN2 : Hid (∀ W e w', NumR W R (numB r 0) (numE r 0) e w' → e = .returned (.int .u64 m) ∧ RR w' R (numB (numB r 0) (numE r 0)) e2 ∧ W.grownBy w' (some R)) := Lib.hid (fun W e w' h => by unfold NumR at h; rwa [hm, he2] at h)
          have HML : Hid (∀ W, RR W R (numB r 0) (numE r 0) → m < 18446744073709551616) := Lib.hid (fun W h => by rw [← hm]; exact numV_lt h.ok _)
          clear ht ht0 hn hm he2
          obtain ⟨b1, hb1⟩ : ∃ b, numB r 0 = b := ⟨_, rfl⟩
          obtain ⟨e1, he1⟩ : ∃ b, numE r 0 = b := ⟨_, rfl⟩
          rw [hb1, he1] at HN1 HN2 HML HT0
          obtain ⟨b2, hb2⟩ : ∃ b, numB b1 e1 = b := ⟨_, rfl⟩
          rw [hb2] at HN2 HT0
          clear hb1 he1 hb2
          obtain ⟨q1, hq1⟩ : ∃ q, n % 1024 = q := ⟨_, rfl⟩
          obtain ⟨q2, hq2⟩ : ∃ q, m % 1024 = q := ⟨_, rfl⟩
          have HQQ := Lib.hid (show n % 1024 = q1 ∧ m % 1024 = q2 from ⟨hq1, hq2⟩)
          have ht1 : Int.tmod (n : Int) 1024 = (q1 : Int) := by rw [Int.tmod_eq_emod_of_nonneg (by omega)]; omega
          have ht2 : Int.tmod (m : Int) 1024 = (q2 : Int) := by rw [Int.tmod_eq_emod_of_nonneg (by omega)]; omega
          have ht3 : (n : Int) % 1024 = (q1 : Int) := by omega
          have ht4 : (m : Int) % 1024 = (q2 : Int) := by omega
          have hu1 : IntKind.u64.wrap (q1 : Int) = (q1 : Int) := by rw [IntKind.wrap_u64]; omega
          have hu2 : IntKind.u64.wrap (q2 : Int) = (q2 : Int) := by rw [IntKind.wrap_u64]; omega
          have hi1 : IntKind.i64.wrap (q1 : Int) = (q1 : Int) := IntWalk.i64_in _ (by omega)
          have hi2 : IntKind.i64.wrap (q2 : Int) = (q2 : Int) := IntWalk.i64_in _ (by omega)
          have HQL : Hid (q1 < 1024 ∧ q2 < 1024) := Lib.hid (by omega)
          clear hq1 hq2
          go_enter Try.func48, Try.ntmps48
          go_wp2_with fail
          refine (num_any R r 0 w2 HS2.out.rr).mono ?_
          rintro e w3 hN
          obtain ⟨rfl, hrr3, hg⟩ := HN1.out _ _ hN
          have HS3 := Lib.hid (HS2.out.step hg hrr3)
          clear hN hrr3 hg
          go_wp2_with fail
          refine (num_any R b1 e1 w3 HS3.out.rr).mono ?_
          rintro e w4 hN
          obtain ⟨rfl, hrr4, hg⟩ := HN2.out _ _ _ hN
          have HS4 := Lib.hid (HS3.out.step hg hrr4)
          clear hN hrr4 hg HS3
          have i1 : w4.cell? ⟨R, 1, none⟩ = some (.int .i64 e2) := by obtain ⟨v, hv, _⟩ := HS4.out.rr; exact (cell_of_row _ _ _ _ _ _ hv).trans rfl
          have if1 : w4.frozen? ⟨R, 1, none⟩ = false := by obtain ⟨v, hv, _⟩ := HS4.out.rr; exact frozen_of_row w4 R 1 _ _ hv
          have il := HS4.out.rr.lt
          by_cases he : e2 = 0
          · subst he
            by_cases hb : n < 1 ∨ 512 < n ∨ m < 1 ∨ 512 < m
            · have HT2 : Hid (evT bs = (8, e', r')) := Lib.hid (by rw [HT.out, if_neg (by simp), if_pos hb])
              by_cases s1 : (n : Int) < 1
              · clear HT hb
                obtain ⟨w6, hw6⟩ : ∃ w6, w4.setCell ⟨R, 1, none⟩ (.int .i64 8) = w6 := ⟨_, rfl⟩
                have HS6 : Hid (RS w w6 R B X b2 8 #[.int .u8 2, .slice none 0 0, .int .i64 0, .int .i64 0, .int .u8 0]) := Lib.hid (by rw [← hw6]; exact HS4.out.err 8)
                have j2 : w6.cell? ⟨X, 2, none⟩ = some (.int .i64 0) := (cell_of_row _ _ _ _ _ _ HS6.out.xb).trans rfl
                have j3 : w6.cell? ⟨X, 3, none⟩ = some (.int .i64 0) := (cell_of_row _ _ _ _ _ _ HS6.out.xb).trans rfl
                have jf2 : w6.frozen? ⟨X, 2, none⟩ = false := frozen_of_row w6 X 2 _ _ HS6.out.xb
                have jf3 : w6.frozen? ⟨X, 3, none⟩ = false := frozen_of_row w6 X 3 _ _ HS6.out.xb
                have jl := lt_of_heap HS6.out.xb
                obtain ⟨w5, hw5⟩ : ∃ w5, (w6.setCell ⟨X, 2, none⟩ (.int .i64 q1)).setCell ⟨X, 3, none⟩ (.int .i64 q2) = w5 := ⟨_, rfl⟩
                have HS5 : Hid (RS w w5 R B X b2 8 #[.int .u8 2, .slice none 0 0, .int .i64 q1, .int .i64 q2, .int .u8 0]) := Lib.hid (by rw [← hw5]; exact (HS6.out.setX 2 (.int .i64 q1)).setX 3 (.int .i64 q2))
                go_wp2_with (first | (with_reducible refine wpList_ldB (row := #[.int .u8 2, .slice none 0 0, .int .i64 q1, .int .i64 q2, .int .u8 0]) evInfo evRow rfl (.tmp 3) rfl rfl HS5.out.xb ?_) | (with_reducible refine wpList_stB (row := #[.int .u8 2, .slice none 0 0, .int .i64 q1, .int .i64 q2, .int .u8 0]) evInfo (by simp [Value.oneCell']) rfl (.tmp 2) (.tmp 123) rfl rfl rfl HS5.out.rb rfl ?_))
                refine bodyPost_ret (v := .agg #[.int .u8 2, .slice none 0 0, .int .i64 q1, .int .i64 q2, .int .u8 0]) ?_ rfl ?_
                · exact results_blk (fn := Try.f48) Try.results48 rfl (run_loadVar_blk evInfo evRow (setRow_heap _ _ _ _ _ _ HS5.out.rb))
                · exact EvR.make (p := ⟨⟨2, [], q1, q2, 0⟩, .slice none 0 0⟩) HT2.out HS5.out (fun h => by cases h) (OwB.nil _ _) okB.nil (by first | (simp; done) | (simp [zE]; done)) (by have h9 := HQL.out; refine ⟨by simp, ⟨?_, ?_⟩, ⟨?_, ?_⟩, by simp⟩ <;> (show (_ : Int) ≤ _) <;> simp <;> omega) _
              · by_cases s2 : (512 : Int) < (n : Int)
                · clear HT hb
                  obtain ⟨w6, hw6⟩ : ∃ w6, w4.setCell ⟨R, 1, none⟩ (.int .i64 8) = w6 := ⟨_, rfl⟩
                  have HS6 : Hid (RS w w6 R B X b2 8 #[.int .u8 2, .slice none 0 0, .int .i64 0, .int .i64 0, .int .u8 0]) := Lib.hid (by rw [← hw6]; exact HS4.out.err 8)
                  have j2 : w6.cell? ⟨X, 2, none⟩ = some (.int .i64 0) := (cell_of_row _ _ _ _ _ _ HS6.out.xb).trans rfl
                  have j3 : w6.cell? ⟨X, 3, none⟩ = some (.int .i64 0) := (cell_of_row _ _ _ _ _ _ HS6.out.xb).trans rfl
                  have jf2 : w6.frozen? ⟨X, 2, none⟩ = false := frozen_of_row w6 X 2 _ _ HS6.out.xb
                  have jf3 : w6.frozen? ⟨X, 3, none⟩ = false := frozen_of_row w6 X 3 _ _ HS6.out.xb
                  have jl := lt_of_heap HS6.out.xb
                  obtain ⟨w5, hw5⟩ : ∃ w5, (w6.setCell ⟨X, 2, none⟩ (.int .i64 q1)).setCell ⟨X, 3, none⟩ (.int .i64 q2) = w5 := ⟨_, rfl⟩
                  have HS5 : Hid (RS w w5 R B X b2 8 #[.int .u8 2, .slice none 0 0, .int .i64 q1, .int .i64 q2, .int .u8 0]) := Lib.hid (by rw [← hw5]; exact (HS6.out.setX 2 (.int .i64 q1)).setX 3 (.int .i64 q2))
                  go_wp2_with (first | (with_reducible refine wpList_ldB (row := #[.int .u8 2, .slice none 0 0, .int .i64 q1, .int .i64 q2, .int .u8 0]) evInfo evRow rfl (.tmp 3) rfl rfl HS5.out.xb ?_) | (with_reducible refine wpList_stB (row := #[.int .u8 2, .slice none 0 0, .int .i64 q1, .int .i64 q2, .int .u8 0]) evInfo (by simp [Value.oneCell']) rfl (.tmp 2) (.tmp 123) rfl rfl rfl HS5.out.rb rfl ?_))
                  refine bodyPost_ret (v := .agg #[.int .u8 2, .slice none 0 0, .int .i64 q1, .int .i64 q2, .int .u8 0]) ?_ rfl ?_
                  · exact results_blk (fn := Try.f48) Try.results48 rfl (run_loadVar_blk evInfo evRow (setRow_heap _ _ _ _ _ _ HS5.out.rb))
                  · exact EvR.make (p := ⟨⟨2, [], q1, q2, 0⟩, .slice none 0 0⟩) HT2.out HS5.out (fun h => by cases h) (OwB.nil _ _) okB.nil (by first | (simp; done) | (simp [zE]; done)) (by have h9 := HQL.out; refine ⟨by simp, ⟨?_, ?_⟩, ⟨?_, ?_⟩, by simp⟩ <;> (show (_ : Int) ≤ _) <;> simp <;> omega) _
                · by_cases s3 : (m : Int) < 1
                  · clear HT hb
                    obtain ⟨w6, hw6⟩ : ∃ w6, w4.setCell ⟨R, 1, none⟩ (.int .i64 8) = w6 := ⟨_, rfl⟩
                    have HS6 : Hid (RS w w6 R B X b2 8 #[.int .u8 2, .slice none 0 0, .int .i64 0, .int .i64 0, .int .u8 0]) := Lib.hid (by rw [← hw6]; exact HS4.out.err 8)
                    have j2 : w6.cell? ⟨X, 2, none⟩ = some (.int .i64 0) := (cell_of_row _ _ _ _ _ _ HS6.out.xb).trans rfl
                    have j3 : w6.cell? ⟨X, 3, none⟩ = some (.int .i64 0) := (cell_of_row _ _ _ _ _ _ HS6.out.xb).trans rfl
                    have jf2 : w6.frozen? ⟨X, 2, none⟩ = false := frozen_of_row w6 X 2 _ _ HS6.out.xb
                    have jf3 : w6.frozen? ⟨X, 3, none⟩ = false := frozen_of_row w6 X 3 _ _ HS6.out.xb
                    have jl := lt_of_heap HS6.out.xb
                    obtain ⟨w5, hw5⟩ : ∃ w5, (w6.setCell ⟨X, 2, none⟩ (.int .i64 q1)).setCell ⟨X, 3, none⟩ (.int .i64 q2) = w5 := ⟨_, rfl⟩
                    have HS5 : Hid (RS w w5 R B X b2 8 #[.int .u8 2, .slice none 0 0, .int .i64 q1, .int .i64 q2, .int .u8 0]) := Lib.hid (by rw [← hw5]; exact (HS6.out.setX 2 (.int .i64 q1)).setX 3 (.int .i64 q2))
                    go_wp2_with (first | (with_reducible refine wpList_ldB (row := #[.int .u8 2, .slice none 0 0, .int .i64 q1, .int .i64 q2, .int .u8 0]) evInfo evRow rfl (.tmp 3) rfl rfl HS5.out.xb ?_) | (with_reducible refine wpList_stB (row := #[.int .u8 2, .slice none 0 0, .int .i64 q1, .int .i64 q2, .int .u8 0]) evInfo (by simp [Value.oneCell']) rfl (.tmp 2) (.tmp 123) rfl rfl rfl HS5.out.rb rfl ?_))
                    refine bodyPost_ret (v := .agg #[.int .u8 2, .slice none 0 0, .int .i64 q1, .int .i64 q2, .int .u8 0]) ?_ rfl ?_
                    · exact results_blk (fn := Try.f48) Try.results48 rfl (run_loadVar_blk evInfo evRow (setRow_heap _ _ _ _ _ _ HS5.out.rb))
                    · exact EvR.make (p := ⟨⟨2, [], q1, q2, 0⟩, .slice none 0 0⟩) HT2.out HS5.out (fun h => by cases h) (OwB.nil _ _) okB.nil (by first | (simp; done) | (simp [zE]; done)) (by have h9 := HQL.out; refine ⟨by simp, ⟨?_, ?_⟩, ⟨?_, ?_⟩, by simp⟩ <;> (show (_ : Int) ≤ _) <;> simp <;> omega) _
                  · have s4 : (512 : Int) < (m : Int) := by omega
                    clear HT hb
                    obtain ⟨w6, hw6⟩ : ∃ w6, w4.setCell ⟨R, 1, none⟩ (.int .i64 8) = w6 := ⟨_, rfl⟩
                    have HS6 : Hid (RS w w6 R B X b2 8 #[.int .u8 2, .slice none 0 0, .int .i64 0, .int .i64 0, .int .u8 0]) := Lib.hid (by rw [← hw6]; exact HS4.out.err 8)
                    have j2 : w6.cell? ⟨X, 2, none⟩ = some (.int .i64 0) := (cell_of_row _ _ _ _ _ _ HS6.out.xb).trans rfl
                    have j3 : w6.cell? ⟨X, 3, none⟩ = some (.int .i64 0) := (cell_of_row _ _ _ _ _ _ HS6.out.xb).trans rfl
                    have jf2 : w6.frozen? ⟨X, 2, none⟩ = false := frozen_of_row w6 X 2 _ _ HS6.out.xb
                    have jf3 : w6.frozen? ⟨X, 3, none⟩ = false := frozen_of_row w6 X 3 _ _ HS6.out.xb
                    have jl := lt_of_heap HS6.out.xb
                    obtain ⟨w5, hw5⟩ : ∃ w5, (w6.setCell ⟨X, 2, none⟩ (.int .i64 q1)).setCell ⟨X, 3, none⟩ (.int .i64 q2) = w5 := ⟨_, rfl⟩
                    have HS5 : Hid (RS w w5 R B X b2 8 #[.int .u8 2, .slice none 0 0, .int .i64 q1, .int .i64 q2, .int .u8 0]) := Lib.hid (by rw [← hw5]; exact (HS6.out.setX 2 (.int .i64 q1)).setX 3 (.int .i64 q2))
                    go_wp2_with (first | (with_reducible refine wpList_ldB (row := #[.int .u8 2, .slice none 0 0, .int .i64 q1, .int .i64 q2, .int .u8 0]) evInfo evRow rfl (.tmp 3) rfl rfl HS5.out.xb ?_) | (with_reducible refine wpList_stB (row := #[.int .u8 2, .slice none 0 0, .int .i64 q1, .int .i64 q2, .int .u8 0]) evInfo (by simp [Value.oneCell']) rfl (.tmp 2) (.tmp 123) rfl rfl rfl HS5.out.rb rfl ?_))
                    refine bodyPost_ret (v := .agg #[.int .u8 2, .slice none 0 0, .int .i64 q1, .int .i64 q2, .int .u8 0]) ?_ rfl ?_
                    · exact results_blk (fn := Try.f48) Try.results48 rfl (run_loadVar_blk evInfo evRow (setRow_heap _ _ _ _ _ _ HS5.out.rb))
                    · exact EvR.make (p := ⟨⟨2, [], q1, q2, 0⟩, .slice none 0 0⟩) HT2.out HS5.out (fun h => by cases h) (OwB.nil _ _) okB.nil (by first | (simp; done) | (simp [zE]; done)) (by have h9 := HQL.out; refine ⟨by simp, ⟨?_, ?_⟩, ⟨?_, ?_⟩, by simp⟩ <;> (show (_ : Int) ≤ _) <;> simp <;> omega) _
            · have HT2 : Hid (evT bs = (0, e', r')) := Lib.hid (by rw [HT.out, if_neg (by simp), if_neg hb])
              have HT3 : Hid ((⟨2, [], (q1 : Int), (q2 : Int), 0⟩ : Event) = e' ∧ b2 = r') := Lib.hid (by
                have h1 := HT0.out ⟨rfl, hb⟩
                have h2 := HQQ.out
                rw [show n = q1 by omega, show m = q2 by omega] at h1
                exact h1)
              have s1 : ¬ (n : Int) < 1 := by omega
              have s2 : ¬ (512 : Int) < (n : Int) := by omega
              have s3 : ¬ (m : Int) < 1 := by omega
              have s4 : ¬ (512 : Int) < (m : Int) := by omega
              clear HT hb
              have j2 : w4.cell? ⟨X, 2, none⟩ = some (.int .i64 0) := (cell_of_row _ _ _ _ _ _ HS4.out.xb).trans rfl
              have j3 : w4.cell? ⟨X, 3, none⟩ = some (.int .i64 0) := (cell_of_row _ _ _ _ _ _ HS4.out.xb).trans rfl
              have jf2 : w4.frozen? ⟨X, 2, none⟩ = false := frozen_of_row w4 X 2 _ _ HS4.out.xb
              have jf3 : w4.frozen? ⟨X, 3, none⟩ = false := frozen_of_row w4 X 3 _ _ HS4.out.xb
              have jl := lt_of_heap HS4.out.xb
              obtain ⟨w5, hw5⟩ : ∃ w5, (w4.setCell ⟨X, 2, none⟩ (.int .i64 q1)).setCell ⟨X, 3, none⟩ (.int .i64 q2) = w5 := ⟨_, rfl⟩
              have HS5 : Hid (RS w w5 R B X b2 0 #[.int .u8 2, .slice none 0 0, .int .i64 q1, .int .i64 q2, .int .u8 0]) := Lib.hid (by rw [← hw5]; exact (HS4.out.setX 2 (.int .i64 q1)).setX 3 (.int .i64 q2))
              go_wp2_with (first | (with_reducible refine wpList_ldB (row := #[.int .u8 2, .slice none 0 0, .int .i64 q1, .int .i64 q2, .int .u8 0]) evInfo evRow rfl (.tmp 3) rfl rfl HS5.out.xb ?_) | (with_reducible refine wpList_stB (row := #[.int .u8 2, .slice none 0 0, .int .i64 q1, .int .i64 q2, .int .u8 0]) evInfo (by simp [Value.oneCell']) rfl (.tmp 2) (.tmp 123) rfl rfl rfl HS5.out.rb rfl ?_))
              refine bodyPost_ret (v := .agg #[.int .u8 2, .slice none 0 0, .int .i64 q1, .int .i64 q2, .int .u8 0]) ?_ rfl ?_
              · exact results_blk (fn := Try.f48) Try.results48 rfl (run_loadVar_blk evInfo evRow (setRow_heap _ _ _ _ _ _ HS5.out.rb))
              · exact EvR.make (p := ⟨⟨2, [], q1, q2, 0⟩, .slice none 0 0⟩) HT2.out HS5.out (fun _ => HT3.out) (OwB.nil _ _) okB.nil (by first | (simp; done) | (simp [zE]; done)) (by have h9 := HQL.out; refine ⟨by simp, ⟨?_, ?_⟩, ⟨?_, ?_⟩, by simp⟩ <;> (show (_ : Int) ≤ _) <;> simp <;> omega) _
          · have HT2 : Hid (evT bs = (e2, e', r')) := Lib.hid (by rw [HT.out, if_pos he])
            have ei : ¬ (e2 : Int) = 0 := by omega
            have ei2 : ((e2 : Int) == 0) = false := by simpa using he
            clear HT
            have j2 : w4.cell? ⟨X, 2, none⟩ = some (.int .i64 0) := (cell_of_row _ _ _ _ _ _ HS4.out.xb).trans rfl
            have j3 : w4.cell? ⟨X, 3, none⟩ = some (.int .i64 0) := (cell_of_row _ _ _ _ _ _ HS4.out.xb).trans rfl
            have jf2 : w4.frozen? ⟨X, 2, none⟩ = false := frozen_of_row w4 X 2 _ _ HS4.out.xb
            have jf3 : w4.frozen? ⟨X, 3, none⟩ = false := frozen_of_row w4 X 3 _ _ HS4.out.xb
            have jl := lt_of_heap HS4.out.xb
            obtain ⟨w5, hw5⟩ : ∃ w5, (w4.setCell ⟨X, 2, none⟩ (.int .i64 q1)).setCell ⟨X, 3, none⟩ (.int .i64 q2) = w5 := ⟨_, rfl⟩
            have HS5 : Hid (RS w w5 R B X b2 e2 #[.int .u8 2, .slice none 0 0, .int .i64 q1, .int .i64 q2, .int .u8 0]) := Lib.hid (by rw [← hw5]; exact (HS4.out.setX 2 (.int .i64 q1)).setX 3 (.int .i64 q2))
            go_wp2_with (first | (with_reducible refine wpList_ldB (row := #[.int .u8 2, .slice none 0 0, .int .i64 q1, .int .i64 q2, .int .u8 0]) evInfo evRow rfl (.tmp 3) rfl rfl HS5.out.xb ?_) | (with_reducible refine wpList_stB (row := #[.int .u8 2, .slice none 0 0, .int .i64 q1, .int .i64 q2, .int .u8 0]) evInfo (by simp [Value.oneCell']) rfl (.tmp 2) (.tmp 123) rfl rfl rfl HS5.out.rb rfl ?_))
            refine bodyPost_ret (v := .agg #[.int .u8 2, .slice none 0 0, .int .i64 q1, .int .i64 q2, .int .u8 0]) ?_ rfl ?_
            · exact results_blk (fn := Try.f48) Try.results48 rfl (run_loadVar_blk evInfo evRow (setRow_heap _ _ _ _ _ _ HS5.out.rb))
            · exact EvR.make (p := ⟨⟨2, [], q1, q2, 0⟩, .slice none 0 0⟩) HT2.out HS5.out (fun h => absurd h he) (OwB.nil _ _) okB.nil (by first | (simp; done) | (simp [zE]; done)) (by have h9 := HQL.out; refine ⟨by simp, ⟨?_, ?_⟩, ⟨?_, ?_⟩, by simp⟩ <;> (show (_ : Int) ≤ _) <;> simp <;> omega) _
        · by_cases q4 : k = 4
          · subst q4
            obtain ⟨A3, l3, cap3, hl3, hrow3, hbb3, hne3, hlc3, hcm3, hlm3, hrd3⟩ := HS2.out.rr.open
            have HROW3 := Lib.hid hrow3
            have HBB3 := Lib.hid hbb3
            have HNE3 := Lib.hid hne3
            have HL3 := Lib.hid hl3
            have i0 : w2.cell? ⟨R, 0, none⟩ = some (.slice A3 l3 cap3) := (cell_of_row _ _ _ _ _ _ hrow3).trans rfl
            have i1 : w2.cell? ⟨R, 1, none⟩ = some (.int .i64 0) := (cell_of_row _ _ _ _ _ _ hrow3).trans rfl
            have if1 : w2.frozen? ⟨R, 1, none⟩ = false := frozen_of_row w2 R 1 _ _ hrow3
            have il := lt_of_heap hrow3
            clear hrow3 hbb3 hne3 hl3
            by_cases h3 : l3 = 0
            · have h3i : ((l3 : Int) == 0) = true := by simpa using h3
              have HT := Lib.hid (evT_way7 HK.out.2.2 HK.out.1 HK.out.2.1 (by rw [← HL3.out]; exact h3))
              subst h3
              obtain ⟨w5, hw5⟩ : ∃ w5, w2.setCell ⟨R, 1, none⟩ (.int .i64 7) = w5 := ⟨_, rfl⟩
              have HS5 : Hid (RS w w5 R B X r 7 #[.int .u8 4, .slice none 0 0, .int .i64 0, .int .i64 0, .int .u8 0]) := Lib.hid (by rw [← hw5]; exact HS2.out.err 7)
              clear hrd3
              go_enter Try.func48, Try.ntmps48
              go_wp2_with (first | (with_reducible refine wpList_ldB (row := #[.int .u8 4, .slice none 0 0, .int .i64 0, .int .i64 0, .int .u8 0]) evInfo evRow rfl (.tmp 3) rfl rfl HS5.out.xb ?_) | (with_reducible refine wpList_stB (row := #[.int .u8 4, .slice none 0 0, .int .i64 0, .int .i64 0, .int .u8 0]) evInfo (by simp [Value.oneCell']) rfl (.tmp 2) (.tmp 101) rfl rfl rfl HS5.out.rb rfl ?_))
              refine bodyPost_ret (v := .agg #[.int .u8 4, .slice none 0 0, .int .i64 0, .int .i64 0, .int .u8 0]) ?_ rfl ?_
              · exact results_blk (fn := Try.f48) Try.results48 rfl (run_loadVar_blk evInfo evRow (setRow_heap _ _ _ _ _ _ HS5.out.rb))
              · exact EvR.make (p := ⟨⟨4, [], 0, 0, 0⟩, .slice none 0 0⟩) HT.out HS5.out (fun h => by cases h) (OwB.nil _ _) okB.nil (by first | (simp; done) | (simp [zE]; done)) (by simp [Event.ok]) _
            · have h3i : ¬ (l3 : Int) = 0 := by omega
              have h3b : ((l3 : Int) == 0) = false := by simpa using h3
              obtain ⟨b3, off3, rfl, hc3⟩ := hrd3.2 (by omega)
              have cb3 := hc3 0 (by omega)
              rw [Nat.add_zero] at cb3
              obtain ⟨a, ha⟩ : ∃ a, r.getD 0 0 = a := ⟨_, rfl⟩
              rw [ha] at cb3
              obtain ⟨r3, hr3⟩ : ∃ q, r.drop 1 = q := ⟨_, rfl⟩
              have ha0 := HS2.out.rr.ok.getD 0
              rw [ha] at ha0
              have HA := Lib.hid (show r.getD 0 0 = a ∧ r.drop 1 = r3 ∧ 0 < r.length from ⟨ha, hr3, by have := HL3.out; omega⟩)
              have hbl3 := block_lt_of_cell cb3
              have hrr3 : ∀ W, (Instr.sliceAt 24 (.slice (some ⟨b3, off3, none⟩) l3 cap3) (some (.int .i64 1)) none none).run Try.prog W = .ok (.slice (restA (some ⟨b3, off3, none⟩) cap3 1) (l3 - 1) (cap3 - 1)) W := fun W => run_restAt (some ⟨b3, off3, none⟩) l3 cap3 1 (by omega) W
              have j4 : w2.cell? ⟨X, 4, none⟩ = some (.int .u8 0) := (cell_of_row _ _ _ _ _ _ HS2.out.xb).trans rfl
              have jf4 : w2.frozen? ⟨X, 4, none⟩ = false := frozen_of_row w2 X 4 _ _ HS2.out.xb
              have jl := lt_of_heap HS2.out.xb
              obtain ⟨w3, hw3⟩ : ∃ w3, w2.setCell ⟨X, 4, none⟩ (.int .u8 a) = w3 := ⟨_, rfl⟩
              have HS3 : Hid (RS w w3 R B X r 0 #[.int .u8 4, .slice none 0 0, .int .i64 0, .int .i64 0, .int .u8 a]) := Lib.hid (by rw [← hw3]; exact HS2.out.setX 4 (.int .u8 a))
              have hkk : ∀ g, g ≠ X → w3.heap[g]? = w2.heap[g]? := fun g hg => by rw [← hw3]; exact heap_setCell_other _ ⟨_, _, _⟩ _ _ hg
              have HROW4 := Lib.hid ((hkk R (by have := HLO.out; omega)).trans HROW3.out)
              have HBB4 : Hid (BB w3 (.slice (some ⟨b3, off3, none⟩) l3 cap3) r) := Lib.hid (HBB3.out.keep fun q hn hq _ => hkk q (by have := HNE3.out hn q hq; have := HLO.out; omega))
              have m0 : w3.cell? ⟨R, 0, none⟩ = some (.slice (some ⟨b3, off3, none⟩) l3 cap3) := (cell_of_row _ _ _ _ _ _ HROW4.out).trans rfl
              have mf0 : w3.frozen? ⟨R, 0, none⟩ = false := frozen_of_row w3 R 0 _ _ HROW4.out
              have ml := lt_of_heap HROW4.out
              obtain ⟨w4, hw4⟩ : ∃ w4, w3.setCell ⟨R, 0, none⟩ (.slice (restA (some ⟨b3, off3, none⟩) cap3 1) (l3 - 1) (cap3 - 1)) = w4 := ⟨_, rfl⟩
              have HS4 : Hid (RS w w4 R B X r3 0 #[.int .u8 4, .slice none 0 0, .int .i64 0, .int .i64 0, .int .u8 a]) := Lib.hid (by
                rw [← hw4, ← hr3]
                exact HS3.out.step grown_at (RR.cutAt HROW4.out HBB4.out HNE3.out (by have := HL3.out; omega)))
              clear hc3 ha hr3 hkk HS3 HBB4 hrd3
              go_enter Try.func48, Try.ntmps48
              go_wp2_with (with_reducible refine wpList_ldB (row := #[.int .u8 4, .slice none 0 0, .int .i64 0, .int .i64 0, .int .u8 a]) evInfo evRow rfl (.tmp 3) rfl rfl HS4.out.xb ?_)
              refine (rmay_any 4 0 0 a none 0 0 _ (by omega) (by omega) (by simp [maxLen]) (by omega)).mono ?_
              rintro e wy ⟨rfl, hb⟩
              have HSY := Lib.hid (HS4.out.below hb)
              clear hb
              have y1 : wy.cell? ⟨R, 1, none⟩ = some (.int .i64 0) := by obtain ⟨v, hv, _⟩ := HSY.out.rr; exact (cell_of_row _ _ _ _ _ _ hv).trans rfl
              have yf1 : wy.frozen? ⟨R, 1, none⟩ = false := by obtain ⟨v, hv, _⟩ := HSY.out.rr; exact frozen_of_row wy R 1 _ _ hv
              have yl := HSY.out.rr.lt
              by_cases hb : 65 ≤ a ∧ a ≤ 68
              · have HT2 : Hid (evT bs = (0, ⟨4, [], 0, 0, a⟩, r3)) := Lib.hid (by rw [evT_way HK.out.2.2 HK.out.1 HK.out.2.1 HA.out.2.2 HA.out.1 hb, HA.out.2.1])
                have hm : mayB 4 (0 : Nat) 0 0 a = true := by simp [mayB]; omega
                rw [hm]
                clear hm hb
                go_wp2_with (first | (with_reducible refine wpList_ldB (row := #[.int .u8 4, .slice none 0 0, .int .i64 0, .int .i64 0, .int .u8 a]) evInfo evRow rfl (.tmp 3) rfl rfl HSY.out.xb ?_) | (with_reducible refine wpList_stB (row := #[.int .u8 4, .slice none 0 0, .int .i64 0, .int .i64 0, .int .u8 a]) evInfo (by simp [Value.oneCell']) rfl (.tmp 2) (.tmp 123) rfl rfl rfl HSY.out.rb rfl ?_))
                refine bodyPost_ret (v := .agg #[.int .u8 4, .slice none 0 0, .int .i64 0, .int .i64 0, .int .u8 a]) ?_ rfl ?_
                · exact results_blk (fn := Try.f48) Try.results48 rfl (run_loadVar_blk evInfo evRow (setRow_heap _ _ _ _ _ _ HSY.out.rb))
                · exact EvR.make (p := ⟨⟨4, [], 0, 0, a⟩, .slice none 0 0⟩) HT2.out HSY.out (fun _ => ⟨rfl, rfl⟩) (OwB.nil _ _) okB.nil (by first | (simp; done) | (simp [zE]; done)) ⟨by simp, by simp, by simp, ha0⟩ _
              · have HT2 : Hid (evT bs = (8, zE, [])) := Lib.hid (evT_way8 HK.out.2.2 HK.out.1 HK.out.2.1 HA.out.2.2 HA.out.1 hb)
                have hm : mayB 4 (0 : Nat) 0 0 a = false := by simp [mayB]; omega
                rw [hm]
                obtain ⟨w6, hw6⟩ : ∃ w6, wy.setCell ⟨R, 1, none⟩ (.int .i64 8) = w6 := ⟨_, rfl⟩
                have HS6 : Hid (RS w w6 R B X r3 8 #[.int .u8 4, .slice none 0 0, .int .i64 0, .int .i64 0, .int .u8 a]) := Lib.hid (by rw [← hw6]; exact HSY.out.err 8)
                clear hm hb
                go_wp2_with (first | (with_reducible refine wpList_ldB (row := #[.int .u8 4, .slice none 0 0, .int .i64 0, .int .i64 0, .int .u8 a]) evInfo evRow rfl (.tmp 3) rfl rfl HS6.out.xb ?_) | (with_reducible refine wpList_stB (row := #[.int .u8 4, .slice none 0 0, .int .i64 0, .int .i64 0, .int .u8 a]) evInfo (by simp [Value.oneCell']) rfl (.tmp 2) (.tmp 123) rfl rfl rfl HS6.out.rb rfl ?_))
                refine bodyPost_ret (v := .agg #[.int .u8 4, .slice none 0 0, .int .i64 0, .int .i64 0, .int .u8 a]) ?_ rfl ?_
                · exact results_blk (fn := Try.f48) Try.results48 rfl (run_loadVar_blk evInfo evRow (setRow_heap _ _ _ _ _ _ HS6.out.rb))
                · exact EvR.make (p := ⟨⟨4, [], 0, 0, a⟩, .slice none 0 0⟩) HT2.out HS6.out (fun h => by cases h) (OwB.nil _ _) okB.nil (by first | (simp; done) | (simp [zE]; done)) ⟨by simp, by simp, by simp, ha0⟩ _
          · have HT := Lib.hid (evT_else HK.out.2.2 HK.out.1 q1 q2 q3 q4)
            have b1 : (k == 1) = false := by simpa using q1
            have b2 : (k == 2) = false := by simpa using q2
            have b3 : (k == 3) = false := by simpa using q3
            have b4 : (k == 4) = false := by simpa using q4
            have i1 : w2.cell? ⟨R, 1, none⟩ = some (.int .i64 0) := by obtain ⟨v, hv, _⟩ := HS2.out.rr; exact (cell_of_row _ _ _ _ _ _ hv).trans rfl
            have if1 : w2.frozen? ⟨R, 1, none⟩ = false := by obtain ⟨v, hv, _⟩ := HS2.out.rr; exact frozen_of_row w2 R 1 _ _ hv
            have il := HS2.out.rr.lt
            obtain ⟨w5, hw5⟩ : ∃ w5, w2.setCell ⟨R, 1, none⟩ (.int .i64 8) = w5 := ⟨_, rfl⟩
            have HS5 : Hid (RS w w5 R B X r 8 #[.int .u8 k, .slice none 0 0, .int .i64 0, .int .i64 0, .int .u8 0]) := Lib.hid (by rw [← hw5]; exact HS2.out.err 8)
            go_enter Try.func48, Try.ntmps48
            go_wp2_with (first | (with_reducible refine wpList_ldB (row := #[.int .u8 k, .slice none 0 0, .int .i64 0, .int .i64 0, .int .u8 0]) evInfo evRow rfl (.tmp 3) rfl rfl HS5.out.xb ?_) | (with_reducible refine wpList_stB (row := #[.int .u8 k, .slice none 0 0, .int .i64 0, .int .i64 0, .int .u8 0]) evInfo (by simp [Value.oneCell']) rfl (.tmp 2) (.tmp 123) rfl rfl rfl HS5.out.rb rfl ?_))
            refine bodyPost_ret (v := .agg #[.int .u8 k, .slice none 0 0, .int .i64 0, .int .i64 0, .int .u8 0]) ?_ rfl ?_
            · exact results_blk (fn := Try.f48) Try.results48 rfl (run_loadVar_blk evInfo evRow (setRow_heap _ _ _ _ _ _ HS5.out.rb))
            · exact EvR.make (p := ⟨⟨k, [], 0, 0, 0⟩, .slice none 0 0⟩) HT.out HS5.out (fun h => by cases h) (OwB.nil _ _) okB.nil (by first | (simp; done) | (simp [zE]; done)) ⟨hk0, by simp, by simp, by simp⟩ _
end Go.Proofs.Ytgkiedbefogklaa
