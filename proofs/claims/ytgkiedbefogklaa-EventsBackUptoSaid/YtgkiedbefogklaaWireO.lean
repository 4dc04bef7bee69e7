/- What is proved: laws of the events' forms, as they are written and read; no condition beyond those typed. -/
import Derived.Test.YtgkiedbefogklaaWire9
import Derived.Test.YtgkiedbefogklaaWireD
set_option linter.unusedSimpArgs false
set_option linter.unusedVariables false
namespace Go.Proofs.Ytgkiedbefogklaa
open Go.RowKit
set_option maxRecDepth 100000
set_option maxHeartbeats 4000000
/-- The next event of bytes: the error, the event, what is left. -/
def evT (bs : List Int) : Nat × Event × List Int :=
  if bs.length = 0 then (7, zE, [])
  else if bs.getD 0 0 = 1 ∨ bs.getD 0 0 = 3 then
    if (readS (bs.drop 1)).2.2 ≠ 0 then ((readS (bs.drop 1)).2.2, zE, [])
    else if 4096 < (readS (bs.drop 1)).1 ∨ ((readS (bs.drop 1)).1 = 0 ∧ bs.getD 0 0 = 1) then (8, zE, [])
    else if ((bs.drop 1).drop (readS (bs.drop 1)).2.1).length < (readS (bs.drop 1)).1 then (7, zE, [])
    else (0, ⟨bs.getD 0 0, ((bs.drop 1).drop (readS (bs.drop 1)).2.1).take (readS (bs.drop 1)).1, 0, 0, 0⟩, ((bs.drop 1).drop (readS (bs.drop 1)).2.1).drop (readS (bs.drop 1)).1)
  else if bs.getD 0 0 = 2 then
    if (readS (bs.drop 1)).2.2 ≠ 0 then ((readS (bs.drop 1)).2.2, zE, [])
    else if (readS ((bs.drop 1).drop (readS (bs.drop 1)).2.1)).2.2 ≠ 0 then ((readS ((bs.drop 1).drop (readS (bs.drop 1)).2.1)).2.2, zE, [])
    else if (readS (bs.drop 1)).1 < 1 ∨ 512 < (readS (bs.drop 1)).1 ∨ (readS ((bs.drop 1).drop (readS (bs.drop 1)).2.1)).1 < 1 ∨ 512 < (readS ((bs.drop 1).drop (readS (bs.drop 1)).2.1)).1 then (8, zE, [])
    else (0, ⟨2, [], (readS (bs.drop 1)).1, (readS ((bs.drop 1).drop (readS (bs.drop 1)).2.1)).1, 0⟩, ((bs.drop 1).drop (readS (bs.drop 1)).2.1).drop (readS ((bs.drop 1).drop (readS (bs.drop 1)).2.1)).2.1)
  else if bs.getD 0 0 = 4 then
    if (bs.drop 1).length = 0 then (7, zE, [])
    else if 65 ≤ (bs.drop 1).getD 0 0 ∧ (bs.drop 1).getD 0 0 ≤ 68 then (0, ⟨4, [], 0, 0, (bs.drop 1).getD 0 0⟩, (bs.drop 1).drop 1)
    else (8, zE, [])
  else (8, zE, [])
section
variable {bs r r2 : List Int} {k : Int} {n c er n2 c2 er2 : Nat}
theorem evT_nil (h : bs.length = 0) : evT bs = (7, zE, []) := by unfold evT; rw [if_pos h]
theorem evT_num (h : 0 < bs.length) (hk : bs.getD 0 0 = k) (hk2 : k = 1 ∨ k = 3 ∨ k = 2) (hr : bs.drop 1 = r) (hs : readS r = (n, c, er)) (he : er ≠ 0) : evT bs = (er, zE, []) := by
  unfold evT
  rw [if_neg (by omega), hk, hr, hs]
  dsimp only
  by_cases h2 : k = 1 ∨ k = 3
  · rw [if_pos h2, if_pos he]
  · rw [if_neg h2, if_pos (by omega), if_pos he]
theorem evT_big (h : 0 < bs.length) (hk : bs.getD 0 0 = k) (hk2 : k = 1 ∨ k = 3) (hr : bs.drop 1 = r) (hs : readS r = (n, c, 0)) (he : 4096 < n ∨ (n = 0 ∧ k = 1)) : evT bs = (8, zE, []) := by
  unfold evT
  rw [if_neg (by omega), hk, hr, hs]
  dsimp only
  rw [if_pos hk2, if_neg (by omega), if_pos he]
theorem evT_few (h : 0 < bs.length) (hk : bs.getD 0 0 = k) (hk2 : k = 1 ∨ k = 3) (hr : bs.drop 1 = r) (hs : readS r = (n, c, 0)) (hr2 : r.drop c = r2) (he : ¬ (4096 < n ∨ (n = 0 ∧ k = 1))) (hl : r2.length < n) : evT bs = (7, zE, []) := by
  unfold evT
  rw [if_neg (by omega), hk, hr, hs]
  dsimp only
  rw [if_pos hk2, if_neg (by omega), if_neg he, hr2, if_pos hl]
theorem evT_bytes (h : 0 < bs.length) (hk : bs.getD 0 0 = k) (hk2 : k = 1 ∨ k = 3) (hr : bs.drop 1 = r) (hs : readS r = (n, c, 0)) (hr2 : r.drop c = r2) (he : ¬ (4096 < n ∨ (n = 0 ∧ k = 1))) (hl : ¬ r2.length < n) : evT bs = (0, ⟨k, r2.take n, 0, 0, 0⟩, r2.drop n) := by
  unfold evT
  rw [if_neg (by omega), hk, hr, hs]
  dsimp only
  rw [if_pos hk2, if_neg (by omega), if_neg he, hr2, if_neg hl]
theorem evT_num2 (h : 0 < bs.length) (hk : bs.getD 0 0 = 2) (hr : bs.drop 1 = r) (hs : readS r = (n, c, 0)) (hr2 : r.drop c = r2) (hs2 : readS r2 = (n2, c2, er2)) (he : er2 ≠ 0) : evT bs = (er2, zE, []) := by
  unfold evT
  rw [if_neg (by omega), hk, hr, hs]
  dsimp only
  rw [if_neg (by decide), if_pos rfl, if_neg (by omega), hr2, hs2]
  dsimp only
  rw [if_pos he]
theorem evT_side (h : 0 < bs.length) (hk : bs.getD 0 0 = 2) (hr : bs.drop 1 = r) (hs : readS r = (n, c, 0)) (hr2 : r.drop c = r2) (hs2 : readS r2 = (n2, c2, 0)) (he : n < 1 ∨ 512 < n ∨ n2 < 1 ∨ 512 < n2) : evT bs = (8, zE, []) := by
  unfold evT
  rw [if_neg (by omega), hk, hr, hs]
  dsimp only
  rw [if_neg (by decide), if_pos rfl, if_neg (by omega), hr2, hs2]
  dsimp only
  rw [if_neg (by omega), if_pos he]
theorem evT_sides (h : 0 < bs.length) (hk : bs.getD 0 0 = 2) (hr : bs.drop 1 = r) (hs : readS r = (n, c, 0)) (hr2 : r.drop c = r2) (hs2 : readS r2 = (n2, c2, 0)) (he : ¬ (n < 1 ∨ 512 < n ∨ n2 < 1 ∨ 512 < n2)) : evT bs = (0, ⟨2, [], n, n2, 0⟩, r2.drop c2) := by
  unfold evT
  rw [if_neg (by omega), hk, hr, hs]
  dsimp only
  rw [if_neg (by decide), if_pos rfl, if_neg (by omega), hr2, hs2]
  dsimp only
  rw [if_neg (by omega), if_neg he]
theorem evT_way7 (h : 0 < bs.length) (hk : bs.getD 0 0 = 4) (hr : bs.drop 1 = r) (hl : r.length = 0) : evT bs = (7, zE, []) := by
  unfold evT
  rw [if_neg (by omega), hk, hr, if_neg (by decide), if_neg (by decide), if_pos rfl, if_pos hl]
theorem evT_way8 (h : 0 < bs.length) (hk : bs.getD 0 0 = 4) (hr : bs.drop 1 = r) (hl : 0 < r.length) (ha : r.getD 0 0 = k) (he : ¬ (65 ≤ k ∧ k ≤ 68)) : evT bs = (8, zE, []) := by
  unfold evT
  rw [if_neg (by omega), hk, hr, if_neg (by decide), if_neg (by decide), if_pos rfl, if_neg (by omega), ha, if_neg he]
theorem evT_way (h : 0 < bs.length) (hk : bs.getD 0 0 = 4) (hr : bs.drop 1 = r) (hl : 0 < r.length) (ha : r.getD 0 0 = k) (he : 65 ≤ k ∧ k ≤ 68) : evT bs = (0, ⟨4, [], 0, 0, k⟩, r.drop 1) := by
  unfold evT
  rw [if_neg (by omega), hk, hr, if_neg (by decide), if_neg (by decide), if_pos rfl, if_neg (by omega), ha, if_pos he]
theorem evT_else (h : 0 < bs.length) (hk : bs.getD 0 0 = k) (h1 : k ≠ 1) (h2 : k ≠ 2) (h3 : k ≠ 3) (h4 : k ≠ 4) : evT bs = (8, zE, []) := by
  unfold evT
  rw [if_neg (by omega), hk, if_neg (by omega), if_neg h2, if_neg h4]
end
theorem cons_of {bs : List Int} (h : 0 < bs.length) : bs = bs.getD 0 0 :: bs.drop 1 := by
  match bs, h with
  | x :: l, _ => rfl
/-- What is told of an event that was read. -/
structure EvGood (bs : List Int) : Prop where
  may : mayS (evT bs).2.1 = true
  ok : (evT bs).2.1.ok
  okb : okB (evT bs).2.1.bs
  okr : okB (evT bs).2.2
  form : bs = evS (evT bs).2.1 ++ (evT bs).2.2
theorem evT_good {bs : List Int} (hx : okB bs) (h : (evT bs).1 = 0) : EvGood bs := by
  by_cases h0 : bs.length = 0
  · rw [evT_nil h0] at h; cases h
  have hp : 0 < bs.length := by omega
  have hk0 := hx.getD 0
  have hc := cons_of hp
  obtain ⟨k, hk⟩ : ∃ k, bs.getD 0 0 = k := ⟨_, rfl⟩
  obtain ⟨r, hr⟩ : ∃ r, bs.drop 1 = r := ⟨_, rfl⟩
  have hrx : okB r := by rw [← hr]; exact hx.drop 1
  rw [hk, hr] at hc
  rw [hk] at hk0
  by_cases h1 : k = 1 ∨ k = 3 ∨ k = 2
  · obtain ⟨⟨n, c, er⟩, hs⟩ : ∃ s, readS r = s := ⟨_, rfl⟩
    by_cases he : er ≠ 0
    · rw [evT_num hp hk h1 hr hs he] at h; exact absurd h he
    have he0 : er = 0 := by omega
    subst he0
    have hg := readS_good hrx (by rw [hs])
    rw [hs] at hg
    dsimp only at hg
    obtain ⟨r2, hr2⟩ : ∃ q, r.drop c = q := ⟨_, rfl⟩
    have hr2x : okB r2 := by rw [← hr2]; exact hrx.drop c
    have hrc : r = uintB n ++ r2 := by rw [hg.2.2.2, ← hr2, List.take_append_drop]
    by_cases h2 : k = 2
    · subst h2
      obtain ⟨⟨n2, c2, er2⟩, hs2⟩ : ∃ s, readS r2 = s := ⟨_, rfl⟩
      by_cases he2 : er2 ≠ 0
      · rw [evT_num2 hp hk hr hs hr2 hs2 he2] at h; exact absurd h he2
      have he20 : er2 = 0 := by omega
      subst he20
      have hg2 := readS_good hr2x (by rw [hs2])
      rw [hs2] at hg2
      dsimp only at hg2
      by_cases hb : n < 1 ∨ 512 < n ∨ n2 < 1 ∨ 512 < n2
      · rw [evT_side hp hk hr hs hr2 hs2 hb] at h; cases h
      have e := evT_sides hp hk hr hs hr2 hs2 hb
      refine ⟨?_, ?_, ?_, ?_, ?_⟩ <;> rw [e]
      · simp [mayS, mayB]; omega
      · exact ⟨by simp, by constructor <;> (show _ ≤ _) <;> simp <;> omega, by constructor <;> (show _ ≤ _) <;> simp <;> omega, by simp⟩
      · exact okB.nil
      · exact hr2x.drop c2
      · show bs = 2 :: ((if (2 : Int) = 2 then uintB (n : Int).toNat ++ uintB (n2 : Int).toNat else _) ++ r2.drop c2)
        rw [if_pos rfl, Int.toNat_natCast, Int.toNat_natCast, hc, hrc, hg2.2.2.2, List.append_assoc, List.take_append_drop]
    · have hk2 : k = 1 ∨ k = 3 := by omega
      by_cases hb : 4096 < n ∨ (n = 0 ∧ k = 1)
      · rw [evT_big hp hk hk2 hr hs hb] at h; cases h
      by_cases hl : r2.length < n
      · rw [evT_few hp hk hk2 hr hs hr2 hb hl] at h; cases h
      have e := evT_bytes hp hk hk2 hr hs hr2 hb hl
      have hlt : (r2.take n).length = n := by rw [List.length_take]; omega
      refine ⟨?_, ?_, ?_, ?_, ?_⟩ <;> rw [e]
      · unfold mayS mayB
        dsimp only
        rw [hlt]
        rcases hk2 with rfl | rfl
        · simp; omega
        · simp; omega
      · exact ⟨hk0, by simp, by simp, by simp⟩
      · exact hr2x.take n
      · exact hr2x.drop n
      · show bs = k :: ((if k = 2 then _ else if k = 4 then _ else uintB (r2.take n).length ++ r2.take n) ++ r2.drop n)
        rw [if_neg h2, if_neg (by omega), hlt, List.append_assoc, List.take_append_drop, ← hrc]
        exact hc
  · by_cases h4 : k = 4
    · subst h4
      by_cases hl : r.length = 0
      · rw [evT_way7 hp hk hr hl] at h; cases h
      obtain ⟨a, ha⟩ : ∃ a, r.getD 0 0 = a := ⟨_, rfl⟩
      by_cases hb : 65 ≤ a ∧ a ≤ 68
      · have e := evT_way hp hk hr (by omega) ha hb
        refine ⟨?_, ?_, ?_, ?_, ?_⟩ <;> rw [e]
        · simp [mayS, mayB]; omega
        · exact ⟨by simp, by simp, by simp, by show 0 ≤ a ∧ a ≤ 255; omega⟩
        · exact okB.nil
        · exact hrx.drop 1
        · show bs = 4 :: ((if (4 : Int) = 2 then _ else if (4 : Int) = 4 then [a] else _) ++ r.drop 1)
          rw [if_neg (by decide), if_pos rfl, hc]
          have := cons_of (bs := r) (by omega)
          rw [ha] at this
          exact congrArg _ this
      · rw [evT_way8 hp hk hr (by omega) ha hb] at h; cases h
    · rw [evT_else hp hk (by omega) (by omega) (by omega) h4] at h; cases h
/-- An event that may be is read as it was written. -/
theorem evT_form {e : Event} (rest : List Int) (hb : okB e.bs) (h : mayS e = true) : evT (evS e ++ rest) = (0, e, rest) := by
  obtain ⟨k, b, c, w, a⟩ := e
  have hp : 0 < (evS ⟨k, b, c, w, a⟩ ++ rest).length := by simp [evS]
  have hk : (evS ⟨k, b, c, w, a⟩ ++ rest).getD 0 0 = k := by simp [evS]
  have hr : (evS ⟨k, b, c, w, a⟩ ++ rest).drop 1 = tailS ⟨k, b, c, w, a⟩ ++ rest := by simp [evS]
  unfold mayS mayB at h
  dsimp only at h hb
  by_cases h1 : k = 1 ∨ k = 3
  · have hf : c = 0 ∧ w = 0 ∧ a = 0 ∧ b.length ≤ 4096 ∧ (k = 1 → 1 ≤ b.length) := by
      rcases h1 with rfl | rfl
      · simp at h; omega
      · simp at h; omega
    obtain ⟨rfl, rfl, rfl, hl, hl1⟩ := hf
    have ht : tailS ⟨k, b, 0, 0, 0⟩ ++ rest = uintB b.length ++ (b ++ rest) := by
      unfold tailS
      dsimp only
      rw [if_neg (by omega), if_neg (by omega), List.append_assoc]
    have hs := readS_form (n := b.length) (by omega) (b ++ rest)
    have hd : (uintB b.length ++ (b ++ rest)).drop (uintB b.length).length = b ++ rest := List.drop_left
    rw [evT_bytes hp hk h1 (hr.trans ht) hs hd (by omega) (by rw [List.length_append]; omega), List.take_left, List.drop_left]
  · by_cases h2 : k = 2
    · subst h2
      have hf : b = [] ∧ a = 0 ∧ (1 ≤ c ∧ c ≤ 512) ∧ 1 ≤ w ∧ w ≤ 512 := by
        simp at h
        refine ⟨by have := h.1.1.1.1.2; exact this, by omega, by omega, by omega, by omega⟩
      obtain ⟨rfl, rfl, hc, hw⟩ := hf
      obtain ⟨m, rfl⟩ := Int.eq_ofNat_of_zero_le (show 0 ≤ c by omega)
      obtain ⟨m2, rfl⟩ := Int.eq_ofNat_of_zero_le (show 0 ≤ w by omega)
      have ht : tailS ⟨2, [], m, m2, 0⟩ ++ rest = uintB m ++ (uintB m2 ++ rest) := by
        unfold tailS
        dsimp only
        rw [if_pos rfl, Int.toNat_natCast, Int.toNat_natCast, List.append_assoc]
      have hs := readS_form (n := m) (by omega) (uintB m2 ++ rest)
      have hd : (uintB m ++ (uintB m2 ++ rest)).drop (uintB m).length = uintB m2 ++ rest := List.drop_left
      have hs2 := readS_form (n := m2) (by omega) rest
      rw [evT_sides hp hk (hr.trans ht) hs hd hs2 (by omega), List.drop_left]
    · by_cases h4 : k = 4
      · subst h4
        have hf : b = [] ∧ c = 0 ∧ w = 0 ∧ 65 ≤ a ∧ a ≤ 68 := by
          simp at h
          refine ⟨by have := h.1.1.2; exact this, by omega, by omega, by omega, by omega⟩
        obtain ⟨rfl, rfl, rfl, ha⟩ := hf
        have ht : tailS ⟨4, [], 0, 0, a⟩ ++ rest = a :: rest := rfl
        rw [evT_way hp hk (hr.trans ht) (by simp) (k := a) rfl ha]
        rfl
      · rw [if_neg (by omega), if_neg h2, if_neg (by omega), if_neg h4] at h
        cases h
/-- Many events. -/
def evsT : Nat → List Int → Nat × List Event × List Int
  | 0, bs => (0, [], bs)
  | n + 1, bs => if (evT bs).1 ≠ 0 then ((evT bs).1, [], []) else ((evsT n (evT bs).2.2).1, (evT bs).2.1 :: (evsT n (evT bs).2.2).2.1, (evsT n (evT bs).2.2).2.2)
theorem evsT_bad {n : Nat} {bs : List Int} (h : (evT bs).1 ≠ 0) : evsT (n + 1) bs = ((evT bs).1, [], []) := by
  show (if (evT bs).1 ≠ 0 then _ else _) = _
  rw [if_pos h]
theorem evsT_next {n : Nat} {bs : List Int} (h : (evT bs).1 = 0) : evsT (n + 1) bs = ((evsT n (evT bs).2.2).1, (evT bs).2.1 :: (evsT n (evT bs).2.2).2.1, (evsT n (evT bs).2.2).2.2) := by
  show (if (evT bs).1 ≠ 0 then _ else _) = _
  rw [if_neg (by omega)]
theorem evsT_good : ∀ (n : Nat) {bs : List Int}, okB bs → (evsT n bs).1 = 0 → (evsT n bs).2.1.length = n ∧ (∀ e ∈ (evsT n bs).2.1, mayS e = true) ∧ bs = (evsT n bs).2.1.flatMap evS ++ (evsT n bs).2.2
  | 0, bs, _, _ => ⟨rfl, (fun e he => by cases he), rfl⟩
  | n + 1, bs, hx, h => by
    by_cases h0 : (evT bs).1 = 0
    · rw [evsT_next h0] at h ⊢
      have g := evT_good hx h0
      obtain ⟨h1, h2, h3⟩ := evsT_good n g.okr h
      refine ⟨by simp [h1], ?_, ?_⟩
      · intro e he
        rcases List.mem_cons.1 he with rfl | he
        · exact g.may
        · exact h2 e he
      · rw [List.flatMap_cons, List.append_assoc, ← h3]
        exact g.form
    · rw [evsT_bad h0] at h
      exact absurd h h0
theorem evsT_form : ∀ (E : List Event) (rest : List Int), (∀ e ∈ E, okB e.bs ∧ mayS e = true) → evsT E.length (E.flatMap evS ++ rest) = (0, E, rest)
  | [], rest, _ => rfl
  | e :: E, rest, h => by
    obtain ⟨h1, h2⟩ := h e List.mem_cons_self
    have e1 : evT ((e :: E).flatMap evS ++ rest) = (0, e, E.flatMap evS ++ rest) := by
      rw [List.flatMap_cons, List.append_assoc]
      exact evT_form _ h1 h2
    have e2 := evsT_form E rest (fun x hx => h x (List.mem_cons_of_mem _ hx))
    show evsT (E.length + 1) _ = _
    rw [evsT_next (by rw [e1]), e1, e2]
/-- What ReadEvents answers. -/
def readEvS (bs : List Int) : Nat × List Event :=
  if 65536 < bs.length then (4, [])
  else if (readS bs).2.2 ≠ 0 then ((readS bs).2.2, [])
  else if 4096 < (readS bs).1 then (8, [])
  else if (evsT (readS bs).1 (bs.drop (readS bs).2.1)).1 ≠ 0 then ((evsT (readS bs).1 (bs.drop (readS bs).2.1)).1, [])
  else if 0 < (evsT (readS bs).1 (bs.drop (readS bs).2.1)).2.2.length then (8, [])
  else (0, (evsT (readS bs).1 (bs.drop (readS bs).2.1)).2.1)
section
variable {bs r : List Int} {n c er : Nat}
theorem rdE_long (h : 65536 < bs.length) : readEvS bs = (4, []) := by unfold readEvS; rw [if_pos h]
theorem rdE_num (h : ¬ 65536 < bs.length) (hs : readS bs = (n, c, er)) (he : er ≠ 0) : readEvS bs = (er, []) := by
  unfold readEvS
  rw [if_neg h, hs]
  dsimp only
  rw [if_pos he]
theorem rdE_many (h : ¬ 65536 < bs.length) (hs : readS bs = (n, c, 0)) (he : 4096 < n) : readEvS bs = (8, []) := by
  unfold readEvS
  rw [if_neg h, hs]
  dsimp only
  rw [if_neg (by omega), if_pos he]
theorem rdE_rest (h : ¬ 65536 < bs.length) (hs : readS bs = (n, c, 0)) (hr : bs.drop c = r) (he : ¬ 4096 < n) : readEvS bs = if (evsT n r).1 ≠ 0 then ((evsT n r).1, []) else if 0 < (evsT n r).2.2.length then (8, []) else (0, (evsT n r).2.1) := by
  unfold readEvS
  rw [if_neg h, hs]
  dsimp only
  rw [if_neg (by omega), if_neg he, hr]
end
/-- What was read is written as the bytes that were read. -/
theorem readEv_forms {bs : List Int} (hx : okB bs) (h : (readEvS bs).1 = 0) : writeEvS (readEvS bs).2 = (bs, 0) ∧ (readEvS bs).2.length ≤ 4096 := by
  by_cases h0 : 65536 < bs.length
  · rw [rdE_long h0] at h; cases h
  obtain ⟨⟨n, c, er⟩, hs⟩ : ∃ s, readS bs = s := ⟨_, rfl⟩
  by_cases he : er ≠ 0
  · rw [rdE_num h0 hs he] at h; exact absurd h he
  obtain rfl : er = 0 := by omega
  by_cases hb : 4096 < n
  · rw [rdE_many h0 hs hb] at h; cases h
  have hg := readS_good hx (by rw [hs])
  rw [hs] at hg
  dsimp only at hg
  obtain ⟨r, hr⟩ : ∃ r, bs.drop c = r := ⟨_, rfl⟩
  have e := rdE_rest h0 hs hr hb
  have hrx : okB r := by rw [← hr]; exact hx.drop c
  rw [e] at h ⊢
  by_cases h1 : (evsT n r).1 ≠ 0
  · rw [if_pos h1] at h; exact absurd h h1
  rw [if_neg h1] at h ⊢
  by_cases h2 : 0 < (evsT n r).2.2.length
  · rw [if_pos h2] at h; cases h
  rw [if_neg h2]
  obtain ⟨g1, g2, g3⟩ := evsT_good n hrx (by omega)
  have hnil : (evsT n r).2.2 = [] := List.eq_nil_of_length_eq_zero (by omega)
  rw [hnil, List.append_nil] at g3
  dsimp only
  have hP : evP (evsT n r).2.1 (evsT n r).2.1.length = bs := by
    unfold evP
    rw [List.take_length, ← g3, g1, hg.2.2.2, ← hr, List.take_append_drop]
  refine ⟨?_, by omega⟩
  unfold writeEvS
  rw [if_neg (by
    intro h
    obtain ⟨x, hx, hy⟩ := List.any_eq_true.1 h
    rw [g2 x hx] at hy
    cases hy), hP, if_neg (by omega)]
theorem writeEv_good {E : List Event} (h : (writeEvS E).2 = 0) : (∀ e ∈ E, mayS e = true) ∧ (writeEvS E).1 = evP E E.length ∧ (evP E E.length).length ≤ 65536 ∧ E.length ≤ 4096 := by
  unfold writeEvS at h ⊢
  by_cases h1 : E.any (fun e => !mayS e) = true
  · rw [if_pos h1] at h; cases h
  rw [if_neg h1] at h ⊢
  by_cases h2 : 65536 < (evP E E.length).length ∨ 4096 < E.length
  · rw [if_pos h2] at h; cases h
  rw [if_neg h2] at h ⊢
  refine ⟨fun e he => ?_, rfl, by omega, by omega⟩
  cases hm : mayS e with
  | true => rfl
  | false =>
    exfalso
    exact h1 (List.any_eq_true.2 ⟨e, he, by rw [hm]; rfl⟩)
/-- What is written is read as it was. -/
theorem writeEv_back {E : List Event} (hb : ∀ e ∈ E, okB e.bs) (h : (writeEvS E).2 = 0) : readEvS (writeEvS E).1 = (0, E) := by
  obtain ⟨h1, h2, h3, h4⟩ := writeEv_good h
  rw [h2]
  have e : evP E E.length = uintB E.length ++ (E.flatMap evS) := by unfold evP; rw [List.take_length]
  rw [e] at h3 ⊢
  have hs := readS_form (n := E.length) (by omega) (E.flatMap evS)
  have hd : (uintB E.length ++ E.flatMap evS).drop (uintB E.length).length = E.flatMap evS := List.drop_left
  rw [rdE_rest (by omega) hs hd (by omega)]
  have h5 := evsT_form E [] (fun e he => ⟨hb e he, h1 e he⟩)
  rw [List.append_nil] at h5
  rw [h5]
  simp
end Go.Proofs.Ytgkiedbefogklaa
