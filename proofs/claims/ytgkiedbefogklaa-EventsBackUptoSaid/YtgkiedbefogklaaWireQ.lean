/- What is proved: what the reader's event answers, or how it panics; conditions: those typed. -/
import Derived.Test.YtgkiedbefogklaaWireP
set_option linter.unusedSimpArgs false
set_option linter.unusedVariables false
namespace Go.Proofs.Ytgkiedbefogklaa
open Go.RowKit
set_option maxRecDepth 100000
set_option maxHeartbeats 8000000
theorem zero_ev (w : World) : (zeroValue 48).run Try.prog w = .ok (.agg #[.int .u8 0, .slice none 0 0, .int .i64 0, .int .i64 0, .int .u8 0]) w := by kernel_rfl
theorem Rd.low {w w' : World} {Bv : Nat} {bs : List Int} (h : Rd w Bv bs) (hk : ∀ g, g ≤ Bv → w'.heap[g]? = w.heap[g]?) : Rd w' Bv bs := by
  obtain ⟨v, hv, hb, hne⟩ := h
  exact ⟨v, (hk Bv (Nat.le_refl _)).trans hv, hb.keep fun b hn hvb _ => hk b (Nat.le_of_lt (hne hn b hvb)), hne⟩
theorem Rd.lt {w : World} {Bv : Nat} {bs : List Int} (h : Rd w Bv bs) : Bv < w.heap.size := by obtain ⟨v, hv, _⟩ := h; exact lt_of_heap hv
theorem Rd.ok {w : World} {Bv : Nat} {bs : List Int} (h : Rd w Bv bs) : okB bs := by obtain ⟨v, _, hb, _⟩ := h; exact hb.ok
/-- The worlds of event, ahead of the event's variable. -/
structure ES0 (w W : World) (Bv B : Nat) (r : List Int) : Prop where
  inv : Inv w (fun g => g = Bv) gh0 W
  rd : Rd W Bv r
  fb : W.heap[B]? = some (.cells #[fun1 Bv, fun2 Bv, fun3 Bv] 64 (0, 0))
  rb : W.heap[B + 1]? = some (.cells #[.int .u8 0, .slice none 0 0, .int .i64 0, .int .i64 0, .int .u8 0] 48 (0, 0))
  lo : w.heap.size = B ∧ Bv < B
theorem ES0.step {w W W' : World} {Bv B : Nat} {r r' : List Int} (h : ES0 w W Bv B r) (hg : W.grownBy W' (some Bv)) (hr : Rd W' Bv r') : ES0 w W' Bv B r' where
  inv := h.inv.then (Inv.ofGrown (S := fun g => g = Bv) hg (fun g hg => (Option.some.inj hg).symm)) (fun g hg _ => hg)
  rd := hr
  fb := (hg.block B (lt_of_heap h.fb) (fun e => by have := Option.some.inj e; have := h.lo; omega)).trans h.fb
  rb := (hg.block _ (lt_of_heap h.rb) (fun e => by have := Option.some.inj e; have := h.lo; omega)).trans h.rb
  lo := h.lo
/-- .. and behind it. -/
structure ES (w W : World) (Bv B X : Nat) (r : List Int) (row : Array Value) : Prop where
  st : ES0 w W Bv B r
  xb : W.heap[X]? = some (.cells row 48 (0, 0))
  lx : B + 1 < X
theorem ES.step {w W W' : World} {Bv B X : Nat} {r r' : List Int} {row : Array Value} (h : ES w W Bv B X r row) (hg : W.grownBy W' (some Bv)) (hr : Rd W' Bv r') : ES w W' Bv B X r' row where
  st := h.st.step hg hr
  xb := (hg.block X (lt_of_heap h.xb) (fun e => by have := Option.some.inj e; have := h.st.lo; have := h.lx; omega)).trans h.xb
  lx := h.lx
theorem ES.below {w W W' : World} {Bv B X : Nat} {r : List Int} {row : Array Value} (h : ES w W Bv B X r row) (hb : Below W.heap.size W W') : ES w W' Bv B X r row :=
  h.step (grown_of_below hb) (h.st.rd.below hb)
theorem ES.setX {w W : World} {Bv B X : Nat} {r : List Int} {row : Array Value} (h : ES w W Bv B X r row) (i : Nat) (u : Value) : ES w (W.setCell ⟨X, i, none⟩ u) Bv B X r (row.setIfInBounds i u) := by
  have hk : ∀ g, g ≠ X → (W.setCell ⟨X, i, none⟩ u).heap[g]? = W.heap[g]? := fun g hg => heap_setCell_other _ ⟨_, _, _⟩ _ _ hg
  have hl := h.st.lo
  have hx := h.lx
  refine ⟨⟨?_, h.st.rd.low fun g hg => hk g (by omega), (hk _ (by omega)).trans h.st.fb, (hk _ (by omega)).trans h.st.rb, hl⟩, heap_setCell_same _ _ _ _ _ _ h.xb, hx⟩
  refine ⟨h.st.inv.os, h.st.inv.tape, h.st.inv.output, by rw [World.size_setCell]; exact h.st.inv.size, fun k hkk hn => (hk k (by omega)).trans (h.st.inv.far k hkk hn), ?_, ?_⟩
  · intro t g o e; cases e
  · intro t t' g g' o o' e; cases e
theorem ES0.new {w W : World} {Bv B X : Nat} {r : List Int} {row old : Array Value} (h : ES0 w W Bv B r) (hX : W.heap.size = X) : ES w ((W.alloc (.cells old 48)).setRow X row) Bv B X r row := by
  have hb : Below W.heap.size W ((W.alloc (.cells old 48)).setRow X row) := by rw [← hX]; exact below_setRow (Below.alloc (Below.refl _ _) (Nat.le_refl _) _) (Nat.le_refl _) _
  exact ⟨h.step (grown_of_below hb) (h.rd.below hb), setRow_heap _ _ _ _ _ _ (by rw [← hX]; exact heap_alloc_last _ _), by rw [← hX]; exact lt_of_heap h.rb⟩
/-- What event answers. -/
def EvPost (w : World) (Bv : Nat) (bs : List Int) (e : Ending) (w' : World) : Prop :=
  ((evT bs).1 = 0 ∧ ∃ u, e = .returned (.agg (erow ⟨(evT bs).2.1, u⟩)) ∧ EvP w' w.heap.size ⟨(evT bs).2.1, u⟩ ∧ Rd w' Bv (evT bs).2.2 ∧ w.grownBy w' (some Bv)) ∨ ((evT bs).1 ≠ 0 ∧ e = .panicked (panE (evT bs).1) ∧ w.grownBy w' (some Bv))
theorem Inv.grownS {w W : World} {Bv : Nat} (h : Inv w (fun g => g = Bv) gh0 W) : w.grownBy W (some Bv) :=
  ⟨h.os, h.tape, h.output, h.size, fun q hq hne => h.far q hq (fun e => hne (by rw [e]))⟩
theorem EvPost.err {w w' : World} {Bv er : Nat} {bs : List Int} (h : evT bs = (er, zE, [])) (he : er ≠ 0) (hi : Inv w (fun g => g = Bv) gh0 w') : EvPost w Bv bs (.panicked (panE er)) w' := by
  refine .inr ?_
  rw [h]
  exact ⟨he, rfl, hi.grownS⟩
theorem EvPost.good {w W : World} {Bv B X : Nat} {bs r : List Int} {e : Event} {u : Value} {row : Array Value} (hx : okB bs) (h : evT bs = (0, e, r)) (hs : ES w W Bv B X r row) (ho : OwB W w.heap.size u e.bs) (hl : e.bs.length ≤ 140737488355328) (row2 : Array Value) :
    EvPost w Bv bs (.returned (.agg (erow ⟨e, u⟩))) (W.setRow (B + 1) row2) := by
  have hg := evT_good hx (by rw [h])
  have hlo := hs.st.lo
  have hb : ∀ b, u.ownBlock = some b → b ≠ B + 1 := fun b hb e => by
    subst e
    obtain ⟨_, cur, h4⟩ := own_typed ho hb
    rw [hs.st.rb] at h4
    simp at h4
  have hk : ∀ g, g ≠ B + 1 → (W.setRow (B + 1) row2).heap[g]? = W.heap[g]? := fun g hg => setRow_other _ _ _ _ hg
  refine .inl ?_
  have h1 := hg.ok
  have h2 := hg.okb
  rw [h] at h1 h2 ⊢
  refine ⟨rfl, u, rfl, ⟨ho.keep fun b hb2 _ => hk b (hb b hb2), h2, hl, h1⟩, hs.st.rd.low fun g hg => hk g (by omega), ?_⟩
  have hi := hs.st.inv
  refine ⟨hi.os, hi.tape, hi.output, by rw [size_setRow]; exact hi.size, fun q hq hne => (hk q (by omega)).trans (hi.far q hq (fun e => hne (by rw [e])))⟩
theorem own1 {w : World} {base : Nat} {u : Value} {k : Int} (h : OwB w base u [k]) : ∃ g c, u = .slice (some ⟨g, 0, none⟩) 1 c ∧ 1 ≤ c ∧ g < w.heap.size ∧ w.cell? ⟨g, 0, none⟩ = some (.int .u8 k) := by
  obtain ⟨_, ⟨_, h2⟩ | ⟨g, cap, cur, h1, hb, hh, h4, h5, h6, h7⟩⟩ := h
  · cases h2
  · refine ⟨g, cap, h1, h4, lt_of_heap hh, ?_⟩
    rw [cell_of_row _ _ _ _ _ _ hh]
    have e := congrArg (fun l => l[0]?) h7
    simp only [List.getElem?_take, List.length_singleton] at e
    rw [if_pos (by omega), Array.getElem?_toList] at e
    rw [e]
    rfl
theorem bytes1_any (Bv : Nat) (bs : List Int) (w : World) (h : Rd w Bv bs) : Calls Try.prog 54 #[.int .u64 1, .pointer (some ⟨Bv, 0, none⟩)] w fun e w' =>
    (∃ k r, bs.getD 0 0 = k ∧ bs.drop 1 = r ∧ 0 < bs.length ∧ (∃ g c, e = .returned (.slice (some ⟨g, 0, none⟩) 1 c) ∧ 1 ≤ c ∧ g < w'.heap.size ∧ w'.cell? ⟨g, 0, none⟩ = some (.int .u8 k)) ∧ Rd w' Bv r ∧ w.grownBy w' (some Bv)) ∨ (bs.length = 0 ∧ e = .panicked (panE 7) ∧ w' = w) := by
  refine (show Calls Try.prog 54 #[.int .u64 1, .pointer (some ⟨Bv, 0, none⟩)] w (BytesPost w Bv 1 bs) from bytes_any Bv 1 bs w h (by decide)).mono ?_
  rintro e w' (⟨h1, u, rfl, h2, h3, h4⟩ | ⟨h1, rfl, rfl⟩)
  · have e : bs.take 1 = [bs.getD 0 0] := by
      match bs, h1 with
      | x :: l, _ => rfl
    rw [e] at h2
    obtain ⟨g, c, rfl, g1, g2, g3⟩ := own1 h2
    exact .inl ⟨_, _, rfl, rfl, h1, ⟨g, c, rfl, g1, g2, g3⟩, h3, h4⟩
  · exact .inr ⟨by omega, rfl, rfl⟩
theorem number_n {Bv : Nat} {r r2 : List Int} {w : World} {n c er : Nat} (hs : readS r = (n, c, er)) (hr2 : r.drop c = r2) (h : Rd w Bv r) : Calls Try.prog 52 #[.pointer (some ⟨Bv, 0, none⟩)] w fun e w' => (er = 0 ∧ e = .returned (.int .u64 n) ∧ Rd w' Bv r2 ∧ w.grownBy w' (some Bv) ∧ n < 18446744073709551616) ∨ (er ≠ 0 ∧ e = .panicked (panE er) ∧ w' = w) := by
  have hl : okB r := h.ok
  refine (number_any Bv r w h).mono ?_
  rintro e w' (⟨g1, rfl, g3, g4⟩ | ⟨g1, rfl, rfl⟩)
  · have := (readS_good hl g1).2.2.1
    rw [hs] at g1 g3 this ⊢
    rw [← hr2]
    exact .inl ⟨g1, rfl, g3, g4, this⟩
  · rw [hs] at g1 ⊢
    exact .inr ⟨g1, rfl, rfl⟩
/-- Stages of a region that reads two numbers. -/
def JE (w2 : World) (Bv : Nat) (r r2 r3 : List Int) (er er2 : Nat) (k : Nat) (W : World) : Prop :=
  Inv w2 (fun g => g = Bv) gh0 W ∧ (if k = 0 then Rd W Bv r else if k = 1 then er = 0 ∧ Rd W Bv r2 else er = 0 ∧ er2 = 0 ∧ Rd W Bv r3)
def DE (w2 : World) (Bv : Nat) (bs : List Int) (c : List PanicEntry) (W : World) : Prop := (∃ er, er ≠ 0 ∧ c = panE er ∧ evT bs = (er, zE, [])) ∧ Inv w2 (fun g => g = Bv) gh0 W
theorem event_any (Bv : Nat) (bs : List Int) (w : World) (h : Rd w Bv bs) : Calls Try.prog 41 #[.agg #[fun1 Bv, fun2 Bv, fun3 Bv]] w (EvPost w Bv bs) := by
  have hz : ∀ w, (zeroValue 48).run Try.prog w = .ok (.agg #[.int .u8 0, .slice none 0 0, .int .i64 0, .int .i64 0, .int .u8 0]) w := zero_ev
  obtain ⟨B, hB⟩ : ∃ B, w.heap.size = B := ⟨_, rfl⟩
  have HOKB := Lib.hid h.ok
  have hBv := h.lt
  obtain ⟨Wa, hWa⟩ : ∃ W, w.alloc (.cells #[fun1 Bv, fun2 Bv, fun3 Bv] 64) = W := ⟨_, rfl⟩
  have hXa : Wa.heap.size = B + 1 := by rw [← hWa, ← hB]; simp
  obtain ⟨Wb, hWb⟩ : ∃ W, Wa.alloc (.cells #[.int .u8 0, .slice none 0 0, .int .i64 0, .int .i64 0, .int .u8 0] 48) = W := ⟨_, rfl⟩
  have hXb : Wb.heap.size = B + 2 := by rw [← hWb]; simp [hXa]
  have h0 : Below w.heap.size w Wa := by rw [← hWa]; exact Below.alloc (Below.refl _ _) (Nat.le_refl _) _
  have h1 : Below w.heap.size w Wb := by rw [← hWb]; exact Below.alloc h0 h0.size _
  have HS0 : Hid (ES0 w Wb Bv B bs) := Lib.hid ⟨Inv.ofBelow h1, h.below h1, by rw [← hWb, heap_alloc_old _ _ (by omega), ← hWa, ← hB]; exact heap_alloc_last _ _, by rw [← hWb, ← hXa]; exact heap_alloc_last _ _, hB, by omega⟩
  have c1 : Wb.cell? ⟨B, 1, none⟩ = some (.func (.func 54) #[] #[.pointer (some ⟨Bv, 0, none⟩)]) := (cell_of_row _ _ _ _ _ _ HS0.out.fb).trans rfl
  clear h h0 h1
  unfold fun1 fun2 fun3
  go_enter Try.func41, Try.ntmps41
  unfold fun1 fun2 fun3 at hWa
  go_wp2_with fail
  refine (bytes1_any Bv bs Wb HS0.out.rd).mono ?_
  rintro e w1 (⟨k, r, hk, hr, hlen, ⟨g, c, rfl, hc1, hgl, hg0⟩, hrd, hgr⟩ | ⟨h0, rfl, rfl⟩)
  · have HS1 := Lib.hid (HS0.out.step hgr hrd)
    have HK := Lib.hid (show bs.getD 0 0 = k ∧ bs.drop 1 = r ∧ 0 < bs.length from ⟨hk, hr, hlen⟩)
    obtain ⟨X, hX⟩ : ∃ X, w1.heap.size = X := ⟨_, rfl⟩
    have HX0 : Hid ((w1.alloc (.cells #[.int .u8 0, .slice none 0 0, .int .i64 0, .int .i64 0, .int .u8 0] 48)).heap[X]? = some (.cells #[.int .u8 0, .slice none 0 0, .int .i64 0, .int .i64 0, .int .u8 0] 48 (0, 0))) := Lib.hid (by rw [← hX]; exact heap_alloc_last _ _)
    obtain ⟨w2, hw2⟩ : ∃ W, (w1.alloc (.cells #[.int .u8 0, .slice none 0 0, .int .i64 0, .int .i64 0, .int .u8 0] 48)).setRow X #[.int .u8 k, .slice none 0 0, .int .i64 0, .int .i64 0, .int .u8 0] = W := ⟨_, rfl⟩
    have HS2 : Hid (ES w w2 Bv B X r #[.int .u8 k, .slice none 0 0, .int .i64 0, .int .i64 0, .int .u8 0]) := Lib.hid (by rw [← hw2]; exact HS1.out.new hX)
    have d0 : w2.cell? ⟨X, 0, none⟩ = some (.int .u8 k) := (cell_of_row _ _ _ _ _ _ HS2.out.xb).trans rfl
    have f0 : w2.cell? ⟨B, 0, none⟩ = some (.func (.func 52) #[] #[.pointer (some ⟨Bv, 0, none⟩)]) := (cell_of_row _ _ _ _ _ _ HS2.out.st.fb).trans rfl
    have f1 : w2.cell? ⟨B, 1, none⟩ = some (.func (.func 54) #[] #[.pointer (some ⟨Bv, 0, none⟩)]) := (cell_of_row _ _ _ _ _ _ HS2.out.st.fb).trans rfl
    clear hk hr hlen hrd hgr HS0 HS1 hWa hWb c1
    by_cases q1 : k = 1
    · subst q1
      obtain ⟨⟨n, c2, er⟩, hs⟩ : ∃ s, readS r = s := ⟨_, rfl⟩
      obtain ⟨r2, hr2⟩ : ∃ q, r.drop c2 = q := ⟨_, rfl⟩
      have HNUM := Lib.hid (number_n hs hr2 HS2.out.st.rd)
      have HEN : Hid (er ≠ 0 → EvPost w Bv bs (.panicked (panE er)) w2) := Lib.hid (fun he => EvPost.err (evT_num HK.out.2.2 HK.out.1 (by omega) HK.out.2.1 hs he) he HS2.out.st.inv)
      have HOK2 : Hid (okB r2) := Lib.hid (by rw [← hr2]; exact HS2.out.st.rd.ok.drop _)
      have HRS := Lib.hid hs
      have HR2 := Lib.hid hr2
      clear hs hr2
      go_wp2_with (with_reducible refine wpList_stB (row := #[.int .u8 1, .slice none 0 0, .int .i64 0, .int .i64 0, .int .u8 0]) evInfo (by simp [Value.oneCell']) rfl (.tmp 3) (.tmp 12) rfl rfl rfl HX0.out rfl ?_)
      try rw [hw2]
      refine HNUM.out.mono ?_
      rintro e w3 (⟨rfl, rfl, hrd, hgr, hn64⟩ | ⟨he, rfl, rfl⟩)
      · have HS3 := Lib.hid (HS2.out.step hgr hrd)
        have HRS : Hid (readS r = (n, c2, 0) ∧ r.drop c2 = r2) := Lib.hid ⟨HRS.out, HR2.out⟩
        have f3 : w3.cell? ⟨B, 1, none⟩ = some (.func (.func 54) #[] #[.pointer (some ⟨Bv, 0, none⟩)]) := (cell_of_row _ _ _ _ _ _ HS3.out.st.fb).trans rfl
        have d3 : w3.cell? ⟨X, 0, none⟩ = some (.int .u8 1) := (cell_of_row _ _ _ _ _ _ HS3.out.xb).trans rfl
        clear hgr hrd HNUM HEN HS2 f0 f1 d0 hw2 HX0 HR2
        by_cases hb : n ≤ 4096
        · have hbi : (n : Int) ≤ 4096 := by omega
          have hbd : decide ((n : Int) ≤ 4096) = true := decide_eq_true hbi
          by_cases hz0 : 0 < n
          · have hzi : (0 : Int) < (n : Int) := by omega
            have hzd : decide ((0 : Int) < (n : Int)) = true := decide_eq_true hzi
            have HT := Lib.hid (evT_bytes HK.out.2.2 HK.out.1 (by omega) HK.out.2.1 HRS.out.1 HRS.out.2 (by omega))
            have HT7 := Lib.hid (evT_few HK.out.2.2 HK.out.1 (by omega) HK.out.2.1 HRS.out.1 HRS.out.2 (by omega))
            go_wp2_with fail
            refine (need_ok 8 w3).mono ?_
            rintro e wz ⟨rfl, hwz⟩
            subst wz
            go_wp2_with fail
            refine (bytes_any Bv n r2 w3 HS3.out.st.rd hn64).mono ?_
            rintro e w4 (⟨g1, u, rfl, ho, hrd, hgr⟩ | ⟨g1, rfl, rfl⟩)
            · have hlt : (r2.take n).length = n := by rw [List.length_take]; omega
              have HLN : Hid ((r2.take n).length ≤ 140737488355328) := Lib.hid (by omega)
              have HT2 := Lib.hid (HT.out (by omega))
              have HS4 := Lib.hid (HS3.out.step hgr hrd)
              have hoky : okB (r2.take n) := by
                have := hrd
                exact (HOK2.out).take n
              obtain ⟨A9, c9, rfl⟩ := OwB.slice ho
              have hob := ho.rd hoky HLN.out
              obtain ⟨_, _, _, _, e9, _, _, hlc9, hcm9⟩ := hob
              simp only [Value.slice.injEq] at e9
              obtain ⟨rfl, _, rfl⟩ := e9
              rw [hlt] at hlc9
              rw [hlt] at ho ⊢
              have hg4 := HS3.out.st.inv.size
              have d1 : w4.cell? ⟨X, 1, none⟩ = some (.slice none 0 0) := (cell_of_row _ _ _ _ _ _ HS4.out.xb).trans rfl
              have hf1 : w4.frozen? ⟨X, 1, none⟩ = false := frozen_of_row w4 X 1 _ _ HS4.out.xb
              have hXl := lt_of_heap HS4.out.xb
              obtain ⟨w5, hw5⟩ : ∃ W, w4.setCell ⟨X, 1, none⟩ (.slice A9 n c9) = W := ⟨_, rfl⟩
              have HS5 : Hid (ES w w5 Bv B X (r2.drop n) #[.int .u8 1, .slice A9 n c9, .int .i64 0, .int .i64 0, .int .u8 0]) := Lib.hid (by rw [← hw5]; exact HS4.out.setX 1 (.slice A9 n c9))
              have HO5 : Hid (OwB w5 w.heap.size (.slice A9 n c9) (r2.take n)) := Lib.hid (by
                rw [← hw5]
                refine (ho.keep fun q hq hl => heap_setCell_other _ ⟨_, _, _⟩ _ _ (fun e => ?_)).mono hg4
                have e : q = X := by simpa using e
                subst e
                obtain ⟨_, cur, h4⟩ := own_typed ho hq
                rw [HS4.out.xb] at h4
                simp at h4)
              have HM : Hid (mayB 1 (n : Nat) 0 0 0 = true) := Lib.hid (by simp [mayB]; omega)
              clear hgr hrd ho g1 hoky HS4 HT HT7 hlt
              go_wp2_with (with_reducible refine wpList_ldB (row := #[.int .u8 1, .slice A9 n c9, .int .i64 0, .int .i64 0, .int .u8 0]) evInfo evRow rfl (.tmp 3) rfl rfl HS5.out.xb ?_)
              refine (may_any 1 0 0 0 A9 n c9 _ (by omega) (by omega) hcm9 hlc9).mono ?_
              rintro e wy ⟨rfl, hb⟩
              rw [HM.out]
              have HSY := Lib.hid (HS5.out.below hb)
              have HOY := Lib.hid (HO5.out.below hb)
              clear hb
              go_wp2_with fail
              refine (need_ok 8 wy).mono ?_
              rintro e wz ⟨rfl, hwz⟩
              subst wz
              go_wp2_with (first | (with_reducible refine wpList_ldB (row := #[.int .u8 1, .slice A9 n c9, .int .i64 0, .int .i64 0, .int .u8 0]) evInfo evRow rfl (.tmp 3) rfl rfl HSY.out.xb ?_) | (with_reducible refine wpList_stB (row := #[.int .u8 1, .slice A9 n c9, .int .i64 0, .int .i64 0, .int .u8 0]) evInfo (by simp [Value.oneCell']) rfl (.tmp 2) (.tmp 70) rfl rfl rfl HSY.out.st.rb rfl ?_))
              refine bodyPost_ret (v := .agg #[.int .u8 1, .slice A9 n c9, .int .i64 0, .int .i64 0, .int .u8 0]) ?_ rfl ?_
              · exact results_blk (fn := Try.f41) Try.results41 rfl (run_loadVar_blk evInfo evRow (setRow_heap _ _ _ _ _ _ HSY.out.st.rb))
              · exact EvPost.good (e := ⟨1, r2.take n, 0, 0, 0⟩) HOKB.out HT2.out HSY.out HOY.out (by first | (have := HLN.out; omega) | simp) _
            · have HP : Hid (EvPost w Bv bs (.panicked (panE 7)) w4) := Lib.hid (EvPost.err (HT7.out g1) (by decide) HS3.out.st.inv)
              clear g1
              go_wp2_with fail
              exact ⟨rfl, HP.out⟩
          · have hzi : ¬ (0 : Int) < (n : Int) := by omega
            have hzd : decide ((0 : Int) < (n : Int)) = false := decide_eq_false hzi
            have HP : Hid (EvPost w Bv bs (.panicked (panE 8)) w3) := Lib.hid (EvPost.err (evT_big HK.out.2.2 HK.out.1 (by omega) HK.out.2.1 HRS.out.1 (by omega)) (by decide) HS3.out.st.inv)
            go_wp2_with fail
            refine (need_no 8 w3).mono ?_
            rintro e wz ⟨rfl, hwz⟩
            subst wz
            go_wp2_with fail
            exact ⟨rfl, HP.out⟩
        · have hbi : ¬ (n : Int) ≤ 4096 := by omega
          have hbd : decide ((n : Int) ≤ 4096) = false := decide_eq_false hbi
          have HP : Hid (EvPost w Bv bs (.panicked (panE 8)) w3) := Lib.hid (EvPost.err (evT_big HK.out.2.2 HK.out.1 (by omega) HK.out.2.1 HRS.out.1 (by omega)) (by decide) HS3.out.st.inv)
          go_wp2_with fail
          refine (need_no 8 w3).mono ?_
          rintro e wz ⟨rfl, hwz⟩
          subst wz
          go_wp2_with fail
          exact ⟨rfl, HP.out⟩
      · have HP := Lib.hid (HEN.out he)
        clear he HNUM HEN
        go_wp2_with fail
        exact ⟨rfl, HP.out⟩
    · by_cases q3 : k = 3
      · subst q3
        obtain ⟨⟨n, c2, er⟩, hs⟩ : ∃ s, readS r = s := ⟨_, rfl⟩
        obtain ⟨r2, hr2⟩ : ∃ q, r.drop c2 = q := ⟨_, rfl⟩
        have HNUM := Lib.hid (number_n hs hr2 HS2.out.st.rd)
        have HEN : Hid (er ≠ 0 → EvPost w Bv bs (.panicked (panE er)) w2) := Lib.hid (fun he => EvPost.err (evT_num HK.out.2.2 HK.out.1 (by omega) HK.out.2.1 hs he) he HS2.out.st.inv)
        have HOK2 : Hid (okB r2) := Lib.hid (by rw [← hr2]; exact HS2.out.st.rd.ok.drop _)
        have HRS := Lib.hid hs
        have HR2 := Lib.hid hr2
        clear hs hr2
        go_wp2_with (with_reducible refine wpList_stB (row := #[.int .u8 3, .slice none 0 0, .int .i64 0, .int .i64 0, .int .u8 0]) evInfo (by simp [Value.oneCell']) rfl (.tmp 3) (.tmp 12) rfl rfl rfl HX0.out rfl ?_)
        try rw [hw2]
        refine HNUM.out.mono ?_
        rintro e w3 (⟨rfl, rfl, hrd, hgr, hn64⟩ | ⟨he, rfl, rfl⟩)
        · have HS3 := Lib.hid (HS2.out.step hgr hrd)
          have HRS : Hid (readS r = (n, c2, 0) ∧ r.drop c2 = r2) := Lib.hid ⟨HRS.out, HR2.out⟩
          have f3 : w3.cell? ⟨B, 1, none⟩ = some (.func (.func 54) #[] #[.pointer (some ⟨Bv, 0, none⟩)]) := (cell_of_row _ _ _ _ _ _ HS3.out.st.fb).trans rfl
          have d3 : w3.cell? ⟨X, 0, none⟩ = some (.int .u8 3) := (cell_of_row _ _ _ _ _ _ HS3.out.xb).trans rfl
          clear hgr hrd HNUM HEN HS2 f0 f1 d0 hw2 HX0 HR2
          by_cases hb : n ≤ 4096
          · have hbi : (n : Int) ≤ 4096 := by omega
            have hbd : decide ((n : Int) ≤ 4096) = true := decide_eq_true hbi
            by_cases hz0 : 0 < n
            · have hzi : (0 : Int) < (n : Int) := by omega
              have hzd : decide ((0 : Int) < (n : Int)) = true := decide_eq_true hzi
              have HT := Lib.hid (evT_bytes HK.out.2.2 HK.out.1 (by omega) HK.out.2.1 HRS.out.1 HRS.out.2 (by omega))
              have HT7 := Lib.hid (evT_few HK.out.2.2 HK.out.1 (by omega) HK.out.2.1 HRS.out.1 HRS.out.2 (by omega))
              go_wp2_with fail
              refine (need_ok 8 w3).mono ?_
              rintro e wz ⟨rfl, hwz⟩
              subst wz
              go_wp2_with fail
              refine (bytes_any Bv n r2 w3 HS3.out.st.rd hn64).mono ?_
              rintro e w4 (⟨g1, u, rfl, ho, hrd, hgr⟩ | ⟨g1, rfl, rfl⟩)
              · have hlt : (r2.take n).length = n := by rw [List.length_take]; omega
                have HLN : Hid ((r2.take n).length ≤ 140737488355328) := Lib.hid (by omega)
                have HT2 := Lib.hid (HT.out (by omega))
                have HS4 := Lib.hid (HS3.out.step hgr hrd)
                have hoky : okB (r2.take n) := by
                  have := hrd
                  exact (HOK2.out).take n
                obtain ⟨A9, c9, rfl⟩ := OwB.slice ho
                have hob := ho.rd hoky HLN.out
                obtain ⟨_, _, _, _, e9, _, _, hlc9, hcm9⟩ := hob
                simp only [Value.slice.injEq] at e9
                obtain ⟨rfl, _, rfl⟩ := e9
                rw [hlt] at hlc9
                rw [hlt] at ho ⊢
                have hg4 := HS3.out.st.inv.size
                have d1 : w4.cell? ⟨X, 1, none⟩ = some (.slice none 0 0) := (cell_of_row _ _ _ _ _ _ HS4.out.xb).trans rfl
                have hf1 : w4.frozen? ⟨X, 1, none⟩ = false := frozen_of_row w4 X 1 _ _ HS4.out.xb
                have hXl := lt_of_heap HS4.out.xb
                obtain ⟨w5, hw5⟩ : ∃ W, w4.setCell ⟨X, 1, none⟩ (.slice A9 n c9) = W := ⟨_, rfl⟩
                have HS5 : Hid (ES w w5 Bv B X (r2.drop n) #[.int .u8 3, .slice A9 n c9, .int .i64 0, .int .i64 0, .int .u8 0]) := Lib.hid (by rw [← hw5]; exact HS4.out.setX 1 (.slice A9 n c9))
                have HO5 : Hid (OwB w5 w.heap.size (.slice A9 n c9) (r2.take n)) := Lib.hid (by
                  rw [← hw5]
                  refine (ho.keep fun q hq hl => heap_setCell_other _ ⟨_, _, _⟩ _ _ (fun e => ?_)).mono hg4
                  have e : q = X := by simpa using e
                  subst e
                  obtain ⟨_, cur, h4⟩ := own_typed ho hq
                  rw [HS4.out.xb] at h4
                  simp at h4)
                have HM : Hid (mayB 3 (n : Nat) 0 0 0 = true) := Lib.hid (by simp [mayB]; omega)
                clear hgr hrd ho g1 hoky HS4 HT HT7 hlt
                go_wp2_with (with_reducible refine wpList_ldB (row := #[.int .u8 3, .slice A9 n c9, .int .i64 0, .int .i64 0, .int .u8 0]) evInfo evRow rfl (.tmp 3) rfl rfl HS5.out.xb ?_)
                refine (may_any 3 0 0 0 A9 n c9 _ (by omega) (by omega) hcm9 hlc9).mono ?_
                rintro e wy ⟨rfl, hb⟩
                rw [HM.out]
                have HSY := Lib.hid (HS5.out.below hb)
                have HOY := Lib.hid (HO5.out.below hb)
                clear hb
                go_wp2_with fail
                refine (need_ok 8 wy).mono ?_
                rintro e wz ⟨rfl, hwz⟩
                subst wz
                go_wp2_with (first | (with_reducible refine wpList_ldB (row := #[.int .u8 3, .slice A9 n c9, .int .i64 0, .int .i64 0, .int .u8 0]) evInfo evRow rfl (.tmp 3) rfl rfl HSY.out.xb ?_) | (with_reducible refine wpList_stB (row := #[.int .u8 3, .slice A9 n c9, .int .i64 0, .int .i64 0, .int .u8 0]) evInfo (by simp [Value.oneCell']) rfl (.tmp 2) (.tmp 70) rfl rfl rfl HSY.out.st.rb rfl ?_))
                refine bodyPost_ret (v := .agg #[.int .u8 3, .slice A9 n c9, .int .i64 0, .int .i64 0, .int .u8 0]) ?_ rfl ?_
                · exact results_blk (fn := Try.f41) Try.results41 rfl (run_loadVar_blk evInfo evRow (setRow_heap _ _ _ _ _ _ HSY.out.st.rb))
                · exact EvPost.good (e := ⟨3, r2.take n, 0, 0, 0⟩) HOKB.out HT2.out HSY.out HOY.out (by first | (have := HLN.out; omega) | simp) _
              · have HP : Hid (EvPost w Bv bs (.panicked (panE 7)) w4) := Lib.hid (EvPost.err (HT7.out g1) (by decide) HS3.out.st.inv)
                clear g1
                go_wp2_with fail
                exact ⟨rfl, HP.out⟩
            · have hzi : ¬ (0 : Int) < (n : Int) := by omega
              have hzd : decide ((0 : Int) < (n : Int)) = false := decide_eq_false hzi
              have HT := Lib.hid (evT_bytes HK.out.2.2 HK.out.1 (by omega) HK.out.2.1 HRS.out.1 HRS.out.2 (by omega))
              have HT7 := Lib.hid (evT_few HK.out.2.2 HK.out.1 (by omega) HK.out.2.1 HRS.out.1 HRS.out.2 (by omega))
              go_wp2_with fail
              refine (need_ok 8 w3).mono ?_
              rintro e wz ⟨rfl, hwz⟩
              subst wz
              go_wp2_with fail
              refine (bytes_any Bv n r2 w3 HS3.out.st.rd hn64).mono ?_
              rintro e w4 (⟨g1, u, rfl, ho, hrd, hgr⟩ | ⟨g1, rfl, rfl⟩)
              · have hlt : (r2.take n).length = n := by rw [List.length_take]; omega
                have HLN : Hid ((r2.take n).length ≤ 140737488355328) := Lib.hid (by omega)
                have HT2 := Lib.hid (HT.out (by omega))
                have HS4 := Lib.hid (HS3.out.step hgr hrd)
                have hoky : okB (r2.take n) := by
                  have := hrd
                  exact (HOK2.out).take n
                obtain ⟨A9, c9, rfl⟩ := OwB.slice ho
                have hob := ho.rd hoky HLN.out
                obtain ⟨_, _, _, _, e9, _, _, hlc9, hcm9⟩ := hob
                simp only [Value.slice.injEq] at e9
                obtain ⟨rfl, _, rfl⟩ := e9
                rw [hlt] at hlc9
                rw [hlt] at ho ⊢
                have hg4 := HS3.out.st.inv.size
                have d1 : w4.cell? ⟨X, 1, none⟩ = some (.slice none 0 0) := (cell_of_row _ _ _ _ _ _ HS4.out.xb).trans rfl
                have hf1 : w4.frozen? ⟨X, 1, none⟩ = false := frozen_of_row w4 X 1 _ _ HS4.out.xb
                have hXl := lt_of_heap HS4.out.xb
                obtain ⟨w5, hw5⟩ : ∃ W, w4.setCell ⟨X, 1, none⟩ (.slice A9 n c9) = W := ⟨_, rfl⟩
                have HS5 : Hid (ES w w5 Bv B X (r2.drop n) #[.int .u8 3, .slice A9 n c9, .int .i64 0, .int .i64 0, .int .u8 0]) := Lib.hid (by rw [← hw5]; exact HS4.out.setX 1 (.slice A9 n c9))
                have HO5 : Hid (OwB w5 w.heap.size (.slice A9 n c9) (r2.take n)) := Lib.hid (by
                  rw [← hw5]
                  refine (ho.keep fun q hq hl => heap_setCell_other _ ⟨_, _, _⟩ _ _ (fun e => ?_)).mono hg4
                  have e : q = X := by simpa using e
                  subst e
                  obtain ⟨_, cur, h4⟩ := own_typed ho hq
                  rw [HS4.out.xb] at h4
                  simp at h4)
                have HM : Hid (mayB 3 (n : Nat) 0 0 0 = true) := Lib.hid (by simp [mayB]; omega)
                clear hgr hrd ho g1 hoky HS4 HT HT7 hlt
                go_wp2_with (with_reducible refine wpList_ldB (row := #[.int .u8 3, .slice A9 n c9, .int .i64 0, .int .i64 0, .int .u8 0]) evInfo evRow rfl (.tmp 3) rfl rfl HS5.out.xb ?_)
                refine (may_any 3 0 0 0 A9 n c9 _ (by omega) (by omega) hcm9 hlc9).mono ?_
                rintro e wy ⟨rfl, hb⟩
                rw [HM.out]
                have HSY := Lib.hid (HS5.out.below hb)
                have HOY := Lib.hid (HO5.out.below hb)
                clear hb
                go_wp2_with fail
                refine (need_ok 8 wy).mono ?_
                rintro e wz ⟨rfl, hwz⟩
                subst wz
                go_wp2_with (first | (with_reducible refine wpList_ldB (row := #[.int .u8 3, .slice A9 n c9, .int .i64 0, .int .i64 0, .int .u8 0]) evInfo evRow rfl (.tmp 3) rfl rfl HSY.out.xb ?_) | (with_reducible refine wpList_stB (row := #[.int .u8 3, .slice A9 n c9, .int .i64 0, .int .i64 0, .int .u8 0]) evInfo (by simp [Value.oneCell']) rfl (.tmp 2) (.tmp 70) rfl rfl rfl HSY.out.st.rb rfl ?_))
                refine bodyPost_ret (v := .agg #[.int .u8 3, .slice A9 n c9, .int .i64 0, .int .i64 0, .int .u8 0]) ?_ rfl ?_
                · exact results_blk (fn := Try.f41) Try.results41 rfl (run_loadVar_blk evInfo evRow (setRow_heap _ _ _ _ _ _ HSY.out.st.rb))
                · exact EvPost.good (e := ⟨3, r2.take n, 0, 0, 0⟩) HOKB.out HT2.out HSY.out HOY.out (by first | (have := HLN.out; omega) | simp) _
              · have HP : Hid (EvPost w Bv bs (.panicked (panE 7)) w4) := Lib.hid (EvPost.err (HT7.out g1) (by decide) HS3.out.st.inv)
                clear g1
                go_wp2_with fail
                exact ⟨rfl, HP.out⟩
          · have hbi : ¬ (n : Int) ≤ 4096 := by omega
            have hbd : decide ((n : Int) ≤ 4096) = false := decide_eq_false hbi
            have HP : Hid (EvPost w Bv bs (.panicked (panE 8)) w3) := Lib.hid (EvPost.err (evT_big HK.out.2.2 HK.out.1 (by omega) HK.out.2.1 HRS.out.1 (by omega)) (by decide) HS3.out.st.inv)
            go_wp2_with fail
            refine (need_no 8 w3).mono ?_
            rintro e wz ⟨rfl, hwz⟩
            subst wz
            go_wp2_with fail
            exact ⟨rfl, HP.out⟩
        · have HP := Lib.hid (HEN.out he)
          clear he HNUM HEN
          go_wp2_with fail
          exact ⟨rfl, HP.out⟩
      · by_cases q2 : k = 2
        · subst q2
          obtain ⟨⟨n, c2, er⟩, hs⟩ : ∃ s, readS r = s := ⟨_, rfl⟩
          obtain ⟨r2, hr2⟩ : ∃ q, r.drop c2 = q := ⟨_, rfl⟩
          obtain ⟨⟨m, c3, er2⟩, hs2⟩ : ∃ s, readS r2 = s := ⟨_, rfl⟩
          obtain ⟨r3, hr3⟩ : ∃ q, r2.drop c3 = q := ⟨_, rfl⟩
          have HRS := Lib.hid (show readS r = (n, c2, er) ∧ r.drop c2 = r2 ∧ readS r2 = (m, c3, er2) ∧ r2.drop c3 = r3 from ⟨hs, hr2, hs2, hr3⟩)
          have HE1 : Hid (er ≠ 0 → evT bs = (er, zE, [])) := Lib.hid (fun he => evT_num HK.out.2.2 HK.out.1 (by omega) HK.out.2.1 hs he)
          have HE2 : Hid (er = 0 → er2 ≠ 0 → evT bs = (er2, zE, [])) := Lib.hid (fun he he2 => by subst he; exact evT_num2 HK.out.2.2 HK.out.1 HK.out.2.1 hs hr2 hs2 he2)
          have HLT : Hid (B < w2.heap.size ∧ Bv < B) := Lib.hid ⟨lt_of_heap HS2.out.st.fb, HS2.out.st.lo.2⟩
          clear hs hr2 hs2 hr3 d0 f0 f1
          have d0 : w2.cell? ⟨X, 0, none⟩ = some (.int .u8 2) := (cell_of_row _ _ _ _ _ _ HS2.out.xb).trans rfl
          go_wp2_with (with_reducible refine wpList_stB (row := #[.int .u8 2, .slice none 0 0, .int .i64 0, .int .i64 0, .int .u8 0]) evInfo (by simp [Value.oneCell']) rfl (.tmp 3) (.tmp 12) rfl rfl rfl HX0.out rfl ?_)
          try rw [hw2]
          apply wp_region_pan (DE w2 Bv bs) (fun c a W ha h => ?pan) rfl (StK (JE w2 Bv r r2 r3 er er2)) (fun _ => gk 0) ((stK rfl).2 ?start) (hm := by kernel_rfl)
          case start => exact ⟨Inv.ofBelow (Below.drew (Below.refl _ _)), by simpa using HS2.out.st.rd.below (Below.drew (Below.refl _ _))⟩
          case pan =>
            obtain ⟨⟨er9, he9, rfl, ht9⟩, hi9⟩ := h
            exact ⟨ha, EvPost.err ht9 he9 (HS2.out.st.inv.then hi9 (fun g hg _ => hg))⟩
          case h =>
            (apply SeqG.pure; (focus (first | rfl | (go_simp; done) | (simp [Region.wanted, yielded]; done))); (focus (intro w; go_simp; with_reducible rfl)); go_simp)
            apply SeqG.read (v := fun1 Bv) []
            · (first | rfl | (go_simp; done) | (simp [Region.wanted, yielded]; done))
            · intro γ' W hg hI
              have hI2 : ∃ k, JE w2 Bv r r2 r3 er er2 k W := by
                unfold StK at hI
                split at hI
                · exact ⟨_, hI⟩
                · exact hI.elim
              obtain ⟨k, hj⟩ := hI2
              have x0 : W.cell? ⟨B, 0, none⟩ = some (fun1 Bv) := (cell_same (hj.1.far B HLT.out.1 (by have := HLT.out; omega))).trans ((cell_of_row _ _ _ _ _ _ HS2.out.st.fb).trans rfl)
              unfold fun1 at x0 ⊢
              go_simp
            go_simp
            apply SeqG.callP (v := .int .u64 n) [0] (some 0) (gk 1) 52 #[.pointer (some ⟨Bv, 0, none⟩)]
            · (first | rfl | (go_simp; done) | (simp [Region.wanted, yielded]; done))
            · intro w; kernel_rfl
            · intro γ' W hg hI
              have hj := (stK (n := 0) (hg 0 (by simp))).1 hI
              refine (number_n HRS.out.1 HRS.out.2.1 (by simpa using hj.2)).mono ?_
              rintro e w' (⟨he, rfl, hrd, hgr, h64⟩ | ⟨he, rfl, rfl⟩)
              · exact .inl ⟨rfl, (stK (Gh.set_here _ _ _)).2 ⟨hj.1.then (Inv.ofGrown (S := fun g => g = Bv) hgr (fun g hg => (Option.some.inj hg).symm)) (fun g hg _ => hg), by simpa using ⟨he, hrd⟩⟩⟩
              · exact .inr ⟨_, rfl, ⟨_, he, rfl, HE1.out he⟩, hj.1⟩
            go_simp

            (apply SeqG.pure; (focus (first | rfl | (go_simp; done) | (simp [Region.wanted, yielded]; done))); (focus (intro w; go_simp; with_reducible rfl)); go_simp)
            apply SeqG.read (v := fun1 Bv) []
            · (first | rfl | (go_simp; done) | (simp [Region.wanted, yielded]; done))
            · intro γ' W hg hI
              have hI2 : ∃ k, JE w2 Bv r r2 r3 er er2 k W := by
                unfold StK at hI
                split at hI
                · exact ⟨_, hI⟩
                · exact hI.elim
              obtain ⟨k, hj⟩ := hI2
              have x0 : W.cell? ⟨B, 0, none⟩ = some (fun1 Bv) := (cell_same (hj.1.far B HLT.out.1 (by have := HLT.out; omega))).trans ((cell_of_row _ _ _ _ _ _ HS2.out.st.fb).trans rfl)
              unfold fun1 at x0 ⊢
              go_simp
            go_simp
            apply SeqG.callP (v := .int .u64 m) [0] (some 0) (gk 2) 52 #[.pointer (some ⟨Bv, 0, none⟩)]
            · (first | rfl | (go_simp; done) | (simp [Region.wanted, yielded]; done))
            · intro w; kernel_rfl
            · intro γ' W hg hI
              have hj := (stK (n := 1) (hg 0 (by simp))).1 hI
              have h2 : er = 0 ∧ Rd W Bv r2 := by simpa using hj.2
              refine (number_n HRS.out.2.2.1 HRS.out.2.2.2 h2.2).mono ?_
              rintro e w' (⟨he, rfl, hrd, hgr, h64⟩ | ⟨he, rfl, rfl⟩)
              · exact .inl ⟨rfl, (stK (Gh.set_here _ _ _)).2 ⟨hj.1.then (Inv.ofGrown (S := fun g => g = Bv) hgr (fun g hg => (Option.some.inj hg).symm)) (fun g hg _ => hg), by simpa using ⟨h2.1, he, hrd⟩⟩⟩
              · exact .inr ⟨_, rfl, ⟨_, he, rfl, HE2.out h2.1 he⟩, hj.1⟩
            go_simp

            (apply SeqG.pure; (focus (first | rfl | (go_simp; done) | (simp [Region.wanted, yielded]; done))); (focus (intro w; go_simp; with_reducible rfl)); go_simp)
            (apply SeqG.pure; (focus (first | rfl | (go_simp; done) | (simp [Region.wanted, yielded]; done))); (focus (intro w; go_simp; with_reducible rfl)); go_simp)
            apply SeqG.done
            intro w9 hI9
            have hj := (stK (n := 2) (Gh.set_here _ _ _)).1 hI9
            have h2 : er = 0 ∧ er2 = 0 ∧ Rd w9 Bv r3 := by simpa using hj.2
            obtain ⟨rfl, rfl, hrd⟩ := h2
            have HS9 := Lib.hid (HS2.out.step hj.1.grownS hrd)
            clear hI9 hj hrd HE1 HE2
            have e2 : w9.cell? ⟨X, 2, none⟩ = some (.int .i64 0) := (cell_of_row _ _ _ _ _ _ HS9.out.xb).trans rfl
            have e3 : w9.cell? ⟨X, 3, none⟩ = some (.int .i64 0) := (cell_of_row _ _ _ _ _ _ HS9.out.xb).trans rfl
            have hf2 : w9.frozen? ⟨X, 2, none⟩ = false := frozen_of_row w9 X 2 _ _ HS9.out.xb
            have hf3 : w9.frozen? ⟨X, 3, none⟩ = false := frozen_of_row w9 X 3 _ _ HS9.out.xb
            have hXl := lt_of_heap HS9.out.xb
            clear hw2 HX0 d0
            go_simp
            by_cases hb : n ≤ 512 ∧ m ≤ 512
            · have hb1 : (n : Int) ≤ 512 := by omega
              have hb2 : (m : Int) ≤ 512 := by omega
              have hw1 : IntKind.i64.wrap (n : Int) = (n : Int) := IntWalk.i64_in _ (by omega)
              have hw2' : IntKind.i64.wrap (m : Int) = (m : Int) := IntWalk.i64_in _ (by omega)
              obtain ⟨w5, hw5⟩ : ∃ W, (w9.setCell ⟨X, 2, none⟩ (.int .i64 n)).setCell ⟨X, 3, none⟩ (.int .i64 m) = W := ⟨_, rfl⟩
              have HS5 : Hid (ES w w5 Bv B X r3 #[.int .u8 2, .slice none 0 0, .int .i64 n, .int .i64 m, .int .u8 0]) := Lib.hid (by rw [← hw5]; exact (HS9.out.setX 2 (.int .i64 n)).setX 3 (.int .i64 m))
              have HO5 : Hid (OwB w5 w.heap.size (.slice none 0 0) []) := Lib.hid (OwB.nil _ _)
              go_wp2_with fail
              refine (need_ok 8 w9).mono ?_
              rintro e wz ⟨rfl, hwz⟩
              subst wz
              by_cases hbb : 1 ≤ n ∧ 1 ≤ m
              · have HT2 : Hid (evT bs = (0, ⟨2, [], n, m, 0⟩, r3)) := Lib.hid (by rw [evT_sides HK.out.2.2 HK.out.1 HK.out.2.1 HRS.out.1 HRS.out.2.1 HRS.out.2.2.1 (by omega), HRS.out.2.2.2])
                have HM : Hid (mayB 2 (0 : Nat) n m 0 = true) := Lib.hid (by simp [mayB]; omega)
                clear hb hbb
                go_wp2_with (with_reducible refine wpList_ldB (row := #[.int .u8 2, .slice none 0 0, .int .i64 n, .int .i64 m, .int .u8 0]) evInfo evRow rfl (.tmp 3) rfl rfl HS5.out.xb ?_)
                refine (may_any 2 n m 0 none 0 0 _ (by omega) (by omega) (by simp [maxLen]) (by omega)).mono ?_
                rintro e wy ⟨rfl, hb⟩
                rw [HM.out]
                have HSY := Lib.hid (HS5.out.below hb)
                have HOY := Lib.hid (HO5.out.below hb)
                clear hb
                go_wp2_with fail
                refine (need_ok 8 wy).mono ?_
                rintro e wz ⟨rfl, hwz⟩
                subst wz
                go_wp2_with (first | (with_reducible refine wpList_ldB (row := #[.int .u8 2, .slice none 0 0, .int .i64 n, .int .i64 m, .int .u8 0]) evInfo evRow rfl (.tmp 3) rfl rfl HSY.out.xb ?_) | (with_reducible refine wpList_stB (row := #[.int .u8 2, .slice none 0 0, .int .i64 n, .int .i64 m, .int .u8 0]) evInfo (by simp [Value.oneCell']) rfl (.tmp 2) (.tmp 70) rfl rfl rfl HSY.out.st.rb rfl ?_))
                refine bodyPost_ret (v := .agg #[.int .u8 2, .slice none 0 0, .int .i64 n, .int .i64 m, .int .u8 0]) ?_ rfl ?_
                · exact results_blk (fn := Try.f41) Try.results41 rfl (run_loadVar_blk evInfo evRow (setRow_heap _ _ _ _ _ _ HSY.out.st.rb))
                · exact EvPost.good (e := ⟨2, [], n, m, 0⟩) HOKB.out HT2.out HSY.out HOY.out (by first | (have := HLN.out; omega) | simp) _
              · have HP : Hid (∀ W, Inv w (fun g => g = Bv) gh0 W → EvPost w Bv bs (.panicked (panE 8)) W) := Lib.hid (fun W => EvPost.err (evT_side HK.out.2.2 HK.out.1 HK.out.2.1 HRS.out.1 HRS.out.2.1 HRS.out.2.2.1 (by omega)) (by decide))
                have HM : Hid (mayB 2 (0 : Nat) n m 0 = false) := Lib.hid (by simp [mayB]; omega)
                clear hb hbb
                go_wp2_with (with_reducible refine wpList_ldB (row := #[.int .u8 2, .slice none 0 0, .int .i64 n, .int .i64 m, .int .u8 0]) evInfo evRow rfl (.tmp 3) rfl rfl HS5.out.xb ?_)
                refine (may_any 2 n m 0 none 0 0 _ (by omega) (by omega) (by simp [maxLen]) (by omega)).mono ?_
                rintro e wy ⟨rfl, hb⟩
                rw [HM.out]
                have HP2 := Lib.hid (HP.out wy (HS5.out.below hb).st.inv)
                clear hb
                go_wp2_with fail
                refine (need_no 8 wy).mono ?_
                rintro e wz ⟨rfl, hwz⟩
                subst wz
                go_wp2_with fail
                exact ⟨rfl, HP2.out⟩
            · have HP : Hid (EvPost w Bv bs (.panicked (panE 8)) w9) := Lib.hid (EvPost.err (evT_side HK.out.2.2 HK.out.1 HK.out.2.1 HRS.out.1 HRS.out.2.1 HRS.out.2.2.1 (by omega)) (by decide) HS9.out.st.inv)
              by_cases hb1 : (n : Int) ≤ 512
              · have hb2 : ¬ (m : Int) ≤ 512 := by omega
                have hd2 : decide ((m : Int) ≤ 512) = false := decide_eq_false hb2
                clear hb
                go_wp2_with fail
                refine (need_no 8 w9).mono ?_
                rintro e wz ⟨rfl, hwz⟩
                subst wz
                go_wp2_with fail
                exact ⟨rfl, HP.out⟩
              · have hd1 : decide ((n : Int) ≤ 512) = false := decide_eq_false hb1
                clear hb
                go_wp2_with fail
                refine (need_no 8 w9).mono ?_
                rintro e wz ⟨rfl, hwz⟩
                subst wz
                go_wp2_with fail
                exact ⟨rfl, HP.out⟩
          case hl => rfl
          case ho => kernel_rfl
        · by_cases q4 : k = 4
          · subst q4
            go_wp2_with (with_reducible refine wpList_stB (row := #[.int .u8 4, .slice none 0 0, .int .i64 0, .int .i64 0, .int .u8 0]) evInfo (by simp [Value.oneCell']) rfl (.tmp 3) (.tmp 12) rfl rfl rfl HX0.out rfl ?_)
            try rw [hw2]
            refine (bytes1_any Bv r w2 HS2.out.st.rd).mono ?_
            rintro e w3 (⟨a, r2, ha, hr2, hl2, ⟨g2, c2, rfl, hc2, hg2l, hg2⟩, hrd, hgr⟩ | ⟨h0, rfl, rfl⟩)
            · have HS3 := Lib.hid (HS2.out.step hgr hrd)
              have d4 : w3.cell? ⟨X, 4, none⟩ = some (.int .u8 0) := (cell_of_row _ _ _ _ _ _ HS3.out.xb).trans rfl
              have hf4 : w3.frozen? ⟨X, 4, none⟩ = false := frozen_of_row w3 X 4 _ _ HS3.out.xb
              have hXl := lt_of_heap HS3.out.xb
              have ha0 := HS2.out.st.rd.ok.getD 0
              rw [ha] at ha0
              obtain ⟨w5, hw5⟩ : ∃ W, w3.setCell ⟨X, 4, none⟩ (.int .u8 a) = W := ⟨_, rfl⟩
              have HS5 : Hid (ES w w5 Bv B X r2 #[.int .u8 4, .slice none 0 0, .int .i64 0, .int .i64 0, .int .u8 a]) := Lib.hid (by rw [← hw5]; exact HS3.out.setX 4 (.int .u8 a))
              have HO5 : Hid (OwB w5 w.heap.size (.slice none 0 0) []) := Lib.hid (OwB.nil _ _)
              by_cases hb : 65 ≤ a ∧ a ≤ 68
              · have HT2 : Hid (evT bs = (0, ⟨4, [], 0, 0, a⟩, r2)) := Lib.hid (by rw [evT_way HK.out.2.2 HK.out.1 HK.out.2.1 hl2 ha hb, hr2])
                have HM : Hid (mayB 4 (0 : Nat) 0 0 a = true) := Lib.hid (by simp [mayB]; omega)
                clear ha hr2 hl2 hrd hgr hb HS2 HS3 f0 f1 d0 hw2 HX0
                go_wp2_with (with_reducible refine wpList_ldB (row := #[.int .u8 4, .slice none 0 0, .int .i64 0, .int .i64 0, .int .u8 a]) evInfo evRow rfl (.tmp 3) rfl rfl HS5.out.xb ?_)
                refine (may_any 4 0 0 a none 0 0 _ (by omega) (by omega) (by simp [maxLen]) (by omega)).mono ?_
                rintro e wy ⟨rfl, hb⟩
                rw [HM.out]
                have HSY := Lib.hid (HS5.out.below hb)
                have HOY := Lib.hid (HO5.out.below hb)
                clear hb
                go_wp2_with fail
                refine (need_ok 8 wy).mono ?_
                rintro e wz ⟨rfl, hwz⟩
                subst wz
                go_wp2_with (first | (with_reducible refine wpList_ldB (row := #[.int .u8 4, .slice none 0 0, .int .i64 0, .int .i64 0, .int .u8 a]) evInfo evRow rfl (.tmp 3) rfl rfl HSY.out.xb ?_) | (with_reducible refine wpList_stB (row := #[.int .u8 4, .slice none 0 0, .int .i64 0, .int .i64 0, .int .u8 a]) evInfo (by simp [Value.oneCell']) rfl (.tmp 2) (.tmp 70) rfl rfl rfl HSY.out.st.rb rfl ?_))
                refine bodyPost_ret (v := .agg #[.int .u8 4, .slice none 0 0, .int .i64 0, .int .i64 0, .int .u8 a]) ?_ rfl ?_
                · exact results_blk (fn := Try.f41) Try.results41 rfl (run_loadVar_blk evInfo evRow (setRow_heap _ _ _ _ _ _ HSY.out.st.rb))
                · exact EvPost.good (e := ⟨4, [], 0, 0, a⟩) HOKB.out HT2.out HSY.out HOY.out (by first | (have := HLN.out; omega) | simp) _
              · have HP : Hid (∀ W, Inv w (fun g => g = Bv) gh0 W → EvPost w Bv bs (.panicked (panE 8)) W) := Lib.hid (fun W => EvPost.err (evT_way8 HK.out.2.2 HK.out.1 HK.out.2.1 hl2 ha hb) (by decide))
                have HM : Hid (mayB 4 (0 : Nat) 0 0 a = false) := Lib.hid (by simp [mayB]; omega)
                clear ha hr2 hl2 hrd hgr hb HS2 HS3 f0 f1 d0 hw2 HX0
                go_wp2_with (with_reducible refine wpList_ldB (row := #[.int .u8 4, .slice none 0 0, .int .i64 0, .int .i64 0, .int .u8 a]) evInfo evRow rfl (.tmp 3) rfl rfl HS5.out.xb ?_)
                refine (may_any 4 0 0 a none 0 0 _ (by omega) (by omega) (by simp [maxLen]) (by omega)).mono ?_
                rintro e wy ⟨rfl, hb⟩
                rw [HM.out]
                have HP2 := Lib.hid (HP.out wy (HS5.out.below hb).st.inv)
                clear hb
                go_wp2_with fail
                refine (need_no 8 wy).mono ?_
                rintro e wz ⟨rfl, hwz⟩
                subst wz
                go_wp2_with fail
                exact ⟨rfl, HP2.out⟩
            · have HP : Hid (EvPost w Bv bs (.panicked (panE 7)) w3) := Lib.hid (EvPost.err (evT_way7 HK.out.2.2 HK.out.1 HK.out.2.1 h0) (by decide) HS2.out.st.inv)
              clear h0
              go_wp2_with fail
              exact ⟨rfl, HP.out⟩
          · have HP : Hid (∀ W, Inv w (fun g => g = Bv) gh0 W → EvPost w Bv bs (.panicked (panE 8)) W) := Lib.hid (fun W => EvPost.err (evT_else HK.out.2.2 HK.out.1 q1 q2 q3 q4) (by decide))
            have HM : Hid (mayB k (0 : Nat) 0 0 0 = false) := Lib.hid (by simp [mayB, q1, q2, q3, q4])
            have hk0 := HOKB.out.getD 0
            rw [HK.out.1] at hk0
            have b1 : (k == 1) = false := by simpa using q1
            have b2 : (k == 2) = false := by simpa using q2
            have b3 : (k == 3) = false := by simpa using q3
            have b4 : (k == 4) = false := by simpa using q4
            go_wp2_with (first | (with_reducible refine wpList_stB (row := #[.int .u8 k, .slice none 0 0, .int .i64 0, .int .i64 0, .int .u8 0]) evInfo (by simp [Value.oneCell']) rfl (.tmp 3) (.tmp 12) rfl rfl rfl HX0.out rfl ?_) | (with_reducible refine wpList_ldB (row := #[.int .u8 k, .slice none 0 0, .int .i64 0, .int .i64 0, .int .u8 0]) evInfo evRow rfl (.tmp 3) rfl rfl HS2.out.xb ?_))
            refine (may_any k 0 0 0 none 0 0 _ (by omega) (by omega) (by simp [maxLen]) (by omega)).mono ?_
            rintro e wy ⟨rfl, hb⟩
            rw [HM.out]
            have HP2 := Lib.hid (HP.out wy (HS2.out.below (by first | exact hb | (rw [hw2] at hb; exact hb))).st.inv)
            clear hb
            go_wp2_with fail
            refine (need_no 8 wy).mono ?_
            rintro e wz ⟨rfl, hwz⟩
            subst wz
            go_wp2_with fail
            exact ⟨rfl, HP2.out⟩
  · have HP : Hid (EvPost w Bv bs (.panicked (panE 7)) w1) := Lib.hid (EvPost.err (evT_nil h0) (by decide) HS0.out.inv)
    clear HS0
    go_wp2_with fail
    exact ⟨rfl, HP.out⟩
end Go.Proofs.Ytgkiedbefogklaa
