/- What is proved: what Read of the reference answers when it is called: the same as Read of package wire; conditions: the slice reads as it is said to. -/
import Derived.Test.YtclnohifgjjngaaWireK
set_option linter.unusedSimpArgs false
set_option linter.unusedVariables false
namespace Go.Proofs.Ytclnohifgjjngaa
open Go.RowKit
set_option maxRecDepth 100000
set_option maxHeartbeats 8000000
/-- The reader behind k numbers. -/
def stN (bs : List Int) : Nat → List Int × Nat
  | 0 => (bs, 0)
  | k + 1 => (numB (stN bs k).1 (stN bs k).2, numE (stN bs k).1 (stN bs k).2)
def vaN (bs : List Int) (k : Nat) : Nat := numV (stN bs k).1 (stN bs k).2
def rawN (bs : List Int) : Nat := rawE 0 65536 (stN bs 4).1 (stN bs 4).2
def endN (bs : List Int) : Nat := endE (rawB 0 65536 (stN bs 4).1 (stN bs 4).2) (rawN bs)
theorem numB_k {bs : List Int} {k : Nat} (h : eru bs k = 0) : numB (rs bs k) 0 = rs bs (k + 1) := by
  have h2 : (readS (rs bs k)).2.2 = 0 := h
  unfold numB
  rw [if_pos ⟨rfl, h2⟩]
  rfl
theorem numV_k {bs : List Int} {k : Nat} (h : eru bs k = 0) : numV (rs bs k) 0 = nu bs k := by
  have h2 : (readS (rs bs k)).2.2 = 0 := h
  unfold numV
  rw [if_pos ⟨rfl, h2⟩]
  rfl
theorem numE_k {bs : List Int} {k : Nat} (h : eru bs k = 0) : numE (rs bs k) 0 = 0 := by
  have h2 : (readS (rs bs k)).2.2 = 0 := h
  unfold numE
  rw [if_pos rfl, h2]
theorem stN_ok {bs : List Int} : ∀ k, (∀ j, j < k → eru bs j = 0) → stN bs k = (rs bs k, 0)
  | 0, _ => rfl
  | k + 1, h => by
    have h1 := stN_ok k (fun j hj => h j (by omega))
    have h2 : (readS (rs bs k)).2.2 = 0 := h k (by omega)
    show (numB (stN bs k).1 (stN bs k).2, numE (stN bs k).1 (stN bs k).2) = _
    rw [h1]
    unfold numB numE
    rw [if_pos ⟨rfl, h2⟩, if_pos rfl, h2]
    rfl
theorem vaN_ok {bs : List Int} {k : Nat} (h : ∀ j, j < k + 1 → eru bs j = 0) : vaN bs k = nu bs k := by
  unfold vaN numV
  rw [stN_ok k (fun j hj => h j (by omega)), if_pos ⟨rfl, h k (by omega)⟩]
  rfl
theorem stN_err {bs : List Int} {k : Nat} (h : ∀ j, j < k → eru bs j = 0) (he : eru bs k ≠ 0) : ∀ m, (stN bs (k + 1 + m)).2 = eru bs k
  | 0 => by
    show numE (stN bs k).1 (stN bs k).2 = _
    rw [stN_ok k h]
    unfold numE
    rw [if_pos rfl]
    rfl
  | m + 1 => by
    have h1 := stN_err h he m
    show numE (stN bs (k + 1 + m)).1 (stN bs (k + 1 + m)).2 = _
    unfold numE
    rw [h1, if_neg he]
theorem rawE_err {lo hi : Nat} {bs : List Int} {e : Nat} (he : numE bs e ≠ 0) : rawE lo hi bs e = numE bs e := by unfold rawE; rw [if_pos he]
theorem numE_err {bs : List Int} {e : Nat} (he : e ≠ 0) : numE bs e = e := by unfold numE; rw [if_neg he]
theorem endE_err {bs : List Int} {e : Nat} (he : e ≠ 0) : endE bs e = e := by unfold endE; rw [if_neg (fun h => he h.1)]
theorem endN_err {bs : List Int} {k : Nat} (hk : k ≤ 4) (h : ∀ j, j < k → eru bs j = 0) (he : eru bs k ≠ 0) : endN bs = readE bs := by
  rw [readE_num hk h he]
  have h1 : numE (stN bs 4).1 (stN bs 4).2 = eru bs k := by
    have := stN_err h he (4 - k)
    rw [show k + 1 + (4 - k) = 5 by omega] at this
    exact this
  have h2 : rawN bs = eru bs k := by unfold rawN; rw [rawE_err (by rw [h1]; exact he), h1]
  unfold endN
  rw [h2, endE_err he]
theorem pick2 {P : Nat → Prop} (a0 : P 0) (a1 : P 1) {j : Nat} (hj : j < 2) : P j := by
  rcases (by omega : j = 0 ∨ j = 1) with rfl | rfl
  · exact a0
  · exact a1
theorem pick3 {P : Nat → Prop} (a0 : P 0) (a1 : P 1) (a2 : P 2) {j : Nat} (hj : j < 3) : P j := by
  rcases (by omega : j = 0 ∨ j = 1 ∨ j = 2) with rfl | rfl | rfl
  · exact a0
  · exact a1
  · exact a2
theorem pick4 {P : Nat → Prop} (a0 : P 0) (a1 : P 1) (a2 : P 2) (a3 : P 3) {j : Nat} (hj : j < 4) : P j := by
  rcases (by omega : j = 0 ∨ j = 1 ∨ j = 2 ∨ j = 3) with rfl | rfl | rfl | rfl
  · exact a0
  · exact a1
  · exact a2
  · exact a3
theorem pick5 {P : Nat → Prop} (a0 : P 0) (a1 : P 1) (a2 : P 2) (a3 : P 3) (a4 : P 4) {j : Nat} (hj : j < 5) : P j := by
  rcases (by omega : j = 0 ∨ j = 1 ∨ j = 2 ∨ j = 3 ∨ j = 4) with rfl | rfl | rfl | rfl | rfl
  · exact a0
  · exact a1
  · exact a2
  · exact a3
  · exact a4
theorem endN_readE (bs : List Int) : endN bs = readE bs := by
  by_cases h : ∀ j, j < 5 → eru bs j = 0
  · rw [readE_rest h]
    have h4 := stN_ok 4 (fun j hj => h j (by omega))
    have hE : numE (rs bs 4) 0 = 0 := numE_k (k := 4) (h 4 (by omega))
    have hV : numV (rs bs 4) 0 = nu bs 4 := numV_k (k := 4) (h 4 (by omega))
    have hB : numB (rs bs 4) 0 = rs bs 5 := numB_k (k := 4) (h 4 (by omega))
    generalize rs bs 5 = r5 at *
    generalize nu bs 4 = n4 at *
    generalize rs bs 4 = r4 at *
    have hR : rawN bs = if 65536 < n4 then 8 else if (r5).length < n4 then 7 else 0 := by
      unfold rawN rawE
      rw [h4]
      dsimp only
      rw [hE, hV, hB, if_neg (by simp)]
      simp
    unfold endN
    by_cases h1 : 65536 < n4
    · rw [if_pos h1] at hR ⊢
      rw [hR, endE_err (by decide)]
    · rw [if_neg h1] at hR ⊢
      by_cases h2 : (r5).length < n4
      · rw [if_pos h2] at hR ⊢
        rw [hR, endE_err (by decide)]
      · rw [if_neg h2] at hR ⊢
        have h3 : rawB 0 65536 (stN bs 4).1 (stN bs 4).2 = (r5).drop (n4) := by
          unfold rawB
          rw [show rawE 0 65536 (stN bs 4).1 (stN bs 4).2 = 0 from hR, if_pos rfl, h4]
          dsimp only
          rw [hV, hB]
        rw [hR, h3]
        unfold endE
        by_cases h5 : (r5).drop (n4) = []
        · rw [h5]; simp
        · rw [if_pos h5, if_pos ⟨rfl, List.length_pos_iff.2 h5⟩]
  · obtain ⟨k, hk, h1, h2⟩ : ∃ k, k ≤ 4 ∧ (∀ j, j < k → eru bs j = 0) ∧ eru bs k ≠ 0 := by
      by_cases a0 : eru bs 0 = 0
      · by_cases a1 : eru bs 1 = 0
        · by_cases a2 : eru bs 2 = 0
          · by_cases a3 : eru bs 3 = 0
            · by_cases a4 : eru bs 4 = 0
              · exact absurd (fun j hj => by exact pick5 (P := fun j => eru bs j = 0) a0 a1 a2 a3 a4 hj) h
              · exact ⟨4, by omega, fun j hj => by exact pick4 (P := fun j => eru bs j = 0) a0 a1 a2 a3 hj, a4⟩
            · exact ⟨3, by omega, fun j hj => by exact pick3 (P := fun j => eru bs j = 0) a0 a1 a2 hj, a3⟩
          · exact ⟨2, by omega, fun j hj => by exact pick2 (P := fun j => eru bs j = 0) a0 a1 hj, a2⟩
        · exact ⟨1, by omega, fun j hj => by obtain rfl : j = 0 := by omega
                                             exact a0, a1⟩
      · exact ⟨0, by omega, fun j hj => by omega, a0⟩
    exact endN_err hk h1 h2
theorem endN_zero {bs : List Int} (h : readE bs = 0) : vaN bs 0 = nu bs 0 ∧ vaN bs 1 = nu bs 1 ∧ vaN bs 2 = nu bs 2 ∧ vaN bs 3 = nu bs 3 ∧ rawX 0 65536 (stN bs 4).1 (stN bs 4).2 = (rs bs 5).take (nu bs 4) := by
  have h5 : ∀ j, j < 5 → eru bs j = 0 := by
    intro j hj
    have hc := h
    unfold readE at hc
    by_cases a0 : eru bs 0 = 0
    · rw [if_neg (by simp [a0])] at hc
      by_cases a1 : eru bs 1 = 0
      · rw [if_neg (by simp [a1])] at hc
        by_cases a2 : eru bs 2 = 0
        · rw [if_neg (by simp [a2])] at hc
          by_cases a3 : eru bs 3 = 0
          · rw [if_neg (by simp [a3])] at hc
            by_cases a4 : eru bs 4 = 0
            · exact pick5 (P := fun j => eru bs j = 0) a0 a1 a2 a3 a4 hj
            · rw [if_pos a4] at hc; exact absurd hc a4
          · rw [if_pos a3] at hc; exact absurd hc a3
        · rw [if_pos a2] at hc; exact absurd hc a2
      · rw [if_pos a1] at hc; exact absurd hc a1
    · rw [if_pos a0] at hc; exact absurd hc a0
  have hr : rawN bs = 0 := by
    have h1 := endN_readE bs
    rw [h] at h1
    unfold endN endE at h1
    split at h1
    · cases h1
    · exact h1
  refine ⟨vaN_ok (fun j hj => h5 j (by omega)), vaN_ok (fun j hj => h5 j (by omega)), vaN_ok (fun j hj => h5 j (by omega)), vaN_ok (fun j hj => h5 j (by omega)), ?_⟩
  have h4 := stN_ok 4 (fun j hj => h5 j (by omega))
  unfold rawX
  rw [show rawE 0 65536 (stN bs 4).1 (stN bs 4).2 = 0 from hr, if_pos rfl, h4]
  dsimp only
  rw [show numB (rs bs 4) 0 = rs bs 5 from numB_k (k := 4) (h5 4 (by omega)), show numV (rs bs 4) 0 = nu bs 4 from numV_k (k := 4) (h5 4 (by omega))]
/-- The world of the reference's Read. -/
structure RdSt (w : World) (B R : Nat) (W : World) : Prop where
  bel : Below B w W
  res : W.heap[B]? = some (.cells #[.int .u64 0, .int .u64 0, .int .u64 0, .int .u64 0, .slice none 0 0] 34 (0, 0))
  sz : R < W.heap.size
  lo : w.heap.size = B ∧ R = B + 1
theorem RdSt.step {w W W' : World} {B R : Nat} (h : RdSt w B R W) (hg : W.grownBy W' (some R)) : RdSt w B R W' where
  bel := h.bel.grown hg (by have := h.lo; have := h.bel.size; omega) (fun q hq => by obtain rfl := Option.some.inj hq; have := h.lo; omega)
  res := (hg.block B (lt_of_heap h.res) (fun e => by have := Option.some.inj e; have := h.lo; omega)).trans h.res
  sz := Nat.lt_of_lt_of_le h.sz hg.size
  lo := h.lo
theorem RdSt.below {w W W' : World} {B R : Nat} (h : RdSt w B R W) (hb : Below W.heap.size W W') : RdSt w B R W' := h.step (grown_of_below hb)
theorem RdSt.set {w W : World} {B R X i : Nat} {u : Value} (h : RdSt w B R W) (hX : R < X) : RdSt w B R (W.setCell ⟨X, i, none⟩ u) where
  bel := h.bel.setCell (by show B ≤ X; have := h.lo; omega) _
  res := (heap_setCell_other _ ⟨_, _, _⟩ _ _ (by show B ≠ X; have := h.lo; omega)).trans h.res
  sz := by rw [World.size_setCell]; exact h.sz
  lo := h.lo
theorem rr_far {W W' : World} {R X : Nat} {cs : List Int} {e : Nat} {a b c d : Int} {u : Value} (h : RR W R cs e) (hX : W.heap[X]? = some (.cells #[.int .u64 a, .int .u64 b, .int .u64 c, .int .u64 d, u] 34 (0, 0))) (hu : ∃ A n c, u = .slice A n c) (hRX : R ≠ X) (hk : ∀ g, g ≠ X → W'.heap[g]? = W.heap[g]?) : RR W' R cs e := by
  obtain ⟨v, hv, hb, hne⟩ := h
  obtain ⟨A0, n0, c0, rfl⟩ := hu
  refine ⟨v, (hk R hRX).trans hv, hb.keep fun b hn hvb hl => hk b (fun e => ?_), hne⟩
  subst e
  obtain ⟨_, _, A, c, rfl, hr, _⟩ := hb
  obtain ⟨b', off, rfl, hc⟩ := hr.2 hn
  obtain rfl : b' = b := by simpa [Value.ownBlock] using hvb
  have := hc 0 hn
  rw [cell_of_row _ _ _ _ _ _ hX] at this
  match off, this with
  | 0, this => simp at this
  | 1, this => simp at this
  | 2, this => simp at this
  | 3, this => simp at this
  | 4, this => simp at this
  | n + 5, this => simp at this
theorem rread_any (v : Value) (bs : List Int) (w : World) (hv : BB w v bs) : Calls Try.prog 18 #[v] w fun e w' => ReadPost bs w.heap.size e w' ∧ Below w.heap.size w w' := by
  have hsl : ∃ A n c, v = .slice A n c := by obtain ⟨_, _, A, c, h, _⟩ := hv; exact ⟨_, _, _, h⟩
  have HV := Lib.hid hv
  clear hv
  obtain ⟨A0, n0, cp0, rfl⟩ := hsl
  obtain ⟨B, hB⟩ : ∃ B, w.heap.size = B := ⟨_, rfl⟩
  obtain ⟨R, hR⟩ : ∃ R, B + 1 = R := ⟨_, rfl⟩
  have hz : ∀ w, (zeroValue 34).run Try.prog w = .ok (.agg #[.int .u64 0, .int .u64 0, .int .u64 0, .int .u64 0, .slice none 0 0]) w := zero_ins
  obtain ⟨Wa, hWa⟩ : ∃ W, w.alloc (.cells #[.int .u64 0, .int .u64 0, .int .u64 0, .int .u64 0, .slice none 0 0] 34) = W := ⟨_, rfl⟩
  have hXa : Wa.heap.size = R := by rw [← hWa, ← hR, ← hB]; simp
  obtain ⟨Wb, hWb⟩ : ∃ W, Wa.alloc (.cells #[.slice A0 n0 cp0, .int .i64 0] 74) = W := ⟨_, rfl⟩
  have hXb : Wb.heap.size = R + 1 := by rw [← hWb]; simp [hXa]
  have HBA : Below w.heap.size w Wa := by rw [← hWa]; exact Below.alloc (Below.refl _ _) (Nat.le_refl _) _
  have HBW : Below w.heap.size w Wb := by rw [← hWb]; exact Below.alloc HBA HBA.size _
  have HS0 : Hid (RdSt w B R Wb) := Lib.hid ⟨by rw [← hB]; exact HBW, by rw [← hWb, heap_alloc_old _ _ (by omega), ← hWa, ← hB]; exact heap_alloc_last _ _, by omega, hB, by omega⟩
  have HR0 : Hid (RR Wb R bs 0) := Lib.hid ⟨_, by rw [← hWb, ← hXa]; exact heap_alloc_last _ _, HV.out.below HBW, fun hn b e => by have := HV.out.lt hn e; omega⟩
  have HQ : Hid (∀ w1 cs er r w', NumR w1 R cs er r w' → r = .returned (.int .u64 (numV cs er : Nat)) ∧ RR w' R (numB cs er) (numE cs er) ∧ w1.grownBy w' (some R)) := Lib.hid (fun _ _ _ _ _ h => h)
  have HEN := Lib.hid (endN_readE bs)
  have HV0 := Lib.hid (fun h : readE bs = 0 => endN_zero h)
  have HQ0 : Hid (∀ k w1 r w', NumR w1 R (stN bs k).1 (stN bs k).2 r w' → r = .returned (.int .u64 (vaN bs k : Nat)) ∧ RR w' R (stN bs (k + 1)).1 (stN bs (k + 1)).2 ∧ w1.grownBy w' (some R)) := Lib.hid (fun _ _ _ _ h => h)
  have HR0' : Hid (RR Wb R (stN bs 0).1 (stN bs 0).2) := HR0
  obtain ⟨a, ha⟩ : ∃ a, vaN bs 0 = a := ⟨_, rfl⟩
  obtain ⟨b, hb⟩ : ∃ a, vaN bs 1 = a := ⟨_, rfl⟩
  obtain ⟨c, hc⟩ : ∃ a, vaN bs 2 = a := ⟨_, rfl⟩
  obtain ⟨d, hd⟩ : ∃ a, vaN bs 3 = a := ⟨_, rfl⟩
  obtain ⟨⟨s0, e0⟩, hs0⟩ : ∃ s, stN bs 0 = s := ⟨_, rfl⟩
  obtain ⟨⟨s1, e1⟩, hs1⟩ : ∃ s, stN bs 1 = s := ⟨_, rfl⟩
  obtain ⟨⟨s2, e2⟩, hs2⟩ : ∃ s, stN bs 2 = s := ⟨_, rfl⟩
  obtain ⟨⟨s3, e3⟩, hs3⟩ : ∃ s, stN bs 3 = s := ⟨_, rfl⟩
  obtain ⟨⟨s4, e4⟩, hs4⟩ : ∃ s, stN bs 4 = s := ⟨_, rfl⟩
  have H0 := Lib.hid (HQ0.out 0)
  have H1 := Lib.hid (HQ0.out 1)
  have H2 := Lib.hid (HQ0.out 2)
  have H3 := Lib.hid (HQ0.out 3)
  rw [hs0, hs1, ha] at H0
  rw [hs1, hs2, hb] at H1
  rw [hs2, hs3, hc] at H2
  rw [hs3, hs4, hd] at H3
  rw [hs0] at HR0'
  rw [ha, hb, hc, hd, hs4] at HV0
  unfold endN rawN at HEN
  rw [hs4] at HEN
  have HR1 := HR0'
  clear HQ0 HR0' HR0 HQ hs0 hs1 hs2 hs3 hs4 ha hb hc hd HBA HBW
  rw [hB]
  go_enter Try.func18, Try.ntmps18
  go_wp2_with fail
  try rw [hR]
  refine (num_any R _ _ _ HR1.out).mono ?_
  rintro e w1 hN
  obtain ⟨rfl, hRR, hg⟩ := H0.out _ _ _ hN
  have HRR1 := Lib.hid hRR
  have HS1 := Lib.hid (HS0.out.step hg)
  clear hN hRR hg
  go_wp2_with fail
  refine (num_any R _ _ _ HRR1.out).mono ?_
  rintro e w2 hN
  obtain ⟨rfl, hRR, hg⟩ := H1.out _ _ _ hN
  have HRR2 := Lib.hid hRR
  have HS2 := Lib.hid (HS1.out.step hg)
  clear hN hRR hg HRR1 HS1
  go_wp2_with fail
  refine (num_any R _ _ _ HRR2.out).mono ?_
  rintro e w3 hN
  obtain ⟨rfl, hRR, hg⟩ := H2.out _ _ _ hN
  have HRR3 := Lib.hid hRR
  have HS3 := Lib.hid (HS2.out.step hg)
  clear hN hRR hg HRR2 HS2
  go_wp2_with fail
  refine (num_any R _ _ _ HRR3.out).mono ?_
  rintro e w4 hN
  obtain ⟨rfl, hRR, hg⟩ := H3.out _ _ _ hN
  have HRR4 := Lib.hid hRR
  have HS4 := Lib.hid (HS3.out.step hg)
  clear hN hRR hg HRR3 HS3
  obtain ⟨X, hX⟩ : ∃ X, w4.heap.size = X := ⟨_, rfl⟩
  have hRX : R < X := by rw [← hX]; exact HS4.out.sz
  have HXZ : Hid ((w4.alloc (.cells #[.int .u64 0, .int .u64 0, .int .u64 0, .int .u64 0, .slice none 0 0] 34)).heap[X]? = some (.cells #[.int .u64 0, .int .u64 0, .int .u64 0, .int .u64 0, .slice none 0 0] 34 (0, 0))) := Lib.hid (by rw [← hX]; exact heap_alloc_last _ _)
  obtain ⟨w5, hw5⟩ : ∃ W, (w4.alloc (.cells #[.int .u64 0, .int .u64 0, .int .u64 0, .int .u64 0, .slice none 0 0] 34)).setRow X #[.int .u64 a, .int .u64 b, .int .u64 c, .int .u64 d, .slice none 0 0] = W := ⟨_, rfl⟩
  have hbn : Below w4.heap.size w4 w5 := by rw [← hw5, ← hX]; exact below_setRow (Below.alloc (Below.refl _ _) (Nat.le_refl _) _) (Nat.le_refl _) _
  have HX5 : Hid (w5.heap[X]? = some (.cells #[.int .u64 a, .int .u64 b, .int .u64 c, .int .u64 d, .slice none 0 0] 34 (0, 0))) := Lib.hid (by rw [← hw5]; exact setRow_heap _ _ _ _ _ _ HXZ.out)
  have HS5 := Lib.hid (HS4.out.below hbn)
  have HRR5 := Lib.hid (HRR4.out.below hbn)
  clear hbn
  go_wp2_with (with_reducible refine wpList_stB (row := #[.int .u64 a, .int .u64 b, .int .u64 c, .int .u64 d, .slice none 0 0]) insInfo (by simp [Value.oneCell']) rfl (.tmp 5) (.tmp 18) rfl rfl rfl HXZ.out rfl ?_)
  try rw [hw5]
  refine (raw_any R 0 65536 _ _ _ HRR5.out (by decide) (by decide)).mono ?_
  rintro e w6 hN
  have hN2 : (∃ u, e = .returned u ∧ OwB w6 w5.heap.size u (rawX 0 65536 s4 e4)) ∧ RR w6 R (rawB 0 65536 s4 e4) (rawE 0 65536 s4 e4) ∧ w5.grownBy w6 (some R) := hN
  obtain ⟨⟨u, rfl, ho⟩, hRR, hg⟩ := hN2
  have HX6 : Hid (w6.heap[X]? = some (.cells #[.int .u64 a, .int .u64 b, .int .u64 c, .int .u64 d, .slice none 0 0] 34 (0, 0))) := Lib.hid ((hg.block X (lt_of_heap HX5.out) (fun e => by have := Option.some.inj e; omega)).trans HX5.out)
  have hXl := lt_of_heap HX6.out
  have hX5 : X < w5.heap.size := lt_of_heap HX5.out
  have k4 : w6.cell? ⟨X, 4, none⟩ = some (.slice none 0 0) := (cell_of_row _ _ _ _ _ _ HX6.out).trans rfl
  have kf : w6.frozen? ⟨X, 4, none⟩ = false := frozen_of_row w6 X 4 _ _ HX6.out
  obtain ⟨A9, n9, c9, rfl⟩ := ho.form
  have HX7 : Hid ((w6.setCell ⟨X, 4, none⟩ (.slice A9 n9 c9)).heap[X]? = some (.cells #[.int .u64 a, .int .u64 b, .int .u64 c, .int .u64 d, .slice A9 n9 c9] 34 (0, 0))) := Lib.hid (heap_setCell_same _ _ _ _ _ _ HX6.out)
  have HRR7 : Hid (RR (w6.setCell ⟨X, 4, none⟩ (.slice A9 n9 c9)) R (rawB 0 65536 s4 e4) (rawE 0 65536 s4 e4)) := Lib.hid (rr_far hRR HX6.out ⟨_, _, _, rfl⟩ (by omega) (fun g hg => heap_setCell_other _ ⟨_, _, _⟩ _ _ hg))
  have HO7 : Hid (OwB (w6.setCell ⟨X, 4, none⟩ (.slice A9 n9 c9)) w5.heap.size (.slice A9 n9 c9) (rawX 0 65536 s4 e4)) := Lib.hid (ho.keep fun q hq hl => heap_setCell_other _ ⟨_, _, _⟩ _ _ (fun e => by
    have e : q = X := by simpa using e
    have := (World.ownsRow.lt ho q hq).1
    omega))
  have HS7 := Lib.hid ((HS5.out.step hg).set (X := X) (i := 4) (u := .slice A9 n9 c9) hRX)
  clear ho hRR hg hN HS5 HRR5 HS4 HRR4 HX5 HX6 HXZ hw5
  go_wp2_with fail
  refine (rend_any R _ _ _ HRR7.out).mono ?_
  rintro e w8 hN
  have hN2 : e = .returned (.int .i64 (endE (rawB 0 65536 s4 e4) (rawE 0 65536 s4 e4) : Nat)) ∧ RR w8 R (rawB 0 65536 s4 e4) (endE (rawB 0 65536 s4 e4) (rawE 0 65536 s4 e4)) ∧ (w6.setCell ⟨X, 4, none⟩ (.slice A9 n9 c9)).grownBy w8 (some R) := hN
  obtain ⟨rfl, hRR, hg⟩ := hN2
  rw [HEN.out]
  have HX8 : Hid (w8.heap[X]? = some (.cells #[.int .u64 a, .int .u64 b, .int .u64 c, .int .u64 d, .slice A9 n9 c9] 34 (0, 0))) := Lib.hid ((hg.block X (lt_of_heap HX7.out) (fun e => by have := Option.some.inj e; omega)).trans HX7.out)
  have HO8 : Hid (OwB w8 w5.heap.size (.slice A9 n9 c9) (rawX 0 65536 s4 e4)) := Lib.hid (HO7.out.keep fun q hq hl => hg.block q hl (fun e => by
    have e := Option.some.inj e
    have := (World.ownsRow.lt HO7.out q hq).1
    omega))
  have HS8 := Lib.hid (HS7.out.step hg)
  have HLO := Lib.hid HS8.out.lo
  clear hN hRR hg HX7 HO7 HS7 HRR7
  obtain ⟨er, her⟩ : ∃ er, readE bs = er := ⟨_, rfl⟩
  have HER := Lib.hid her
  rw [her]
  clear her
  by_cases he : er = 0
  · subst he
    obtain ⟨g0, g1, g2, g3, g4⟩ := HV0.out HER.out
    have HG := Lib.hid g4
    have HXR : Hid (xr bs 4 (.slice A9 n9 c9) = #[.int .u64 a, .int .u64 b, .int .u64 c, .int .u64 d, .slice A9 n9 c9]) := Lib.hid (by rw [xr_four, g0, g1, g2, g3])
    clear g0 g1 g2 g3 g4 HV0
    go_wp2_with (first | (with_reducible refine wpList_ldB (row := #[.int .u64 a, .int .u64 b, .int .u64 c, .int .u64 d, .slice A9 n9 c9]) insInfo insRow rfl (.tmp 5) rfl rfl HX8.out ?_) | (with_reducible refine wpList_stB (row := #[.int .u64 a, .int .u64 b, .int .u64 c, .int .u64 d, .slice A9 n9 c9]) insInfo (by simp [Value.oneCell']) rfl (.tmp 2) (.tmp 28) rfl rfl rfl HS8.out.res rfl ?_))
    refine bodyPost_ret (v := .tuple #[.agg #[.int .u64 a, .int .u64 b, .int .u64 c, .int .u64 d, .slice A9 n9 c9], .int .i64 0]) ?_ rfl ⟨?_, below_setRow HS8.out.bel (by have hlo := HLO.out; omega) _⟩
    · exact results_cs (fn := Try.f18) Try.results18 rfl (run_loadVar_blk insInfo insRow (setRow_heap _ _ _ _ _ _ HS8.out.res))
    · rw [← HXR.out]
      refine ReadPost.good HER.out ?_
      rw [← HG.out]
      exact (HO8.out.keep fun g hg hlt => setRow_other _ _ _ _ (fun e => by have := (World.ownsRow.lt HO8.out g hg).1; have hlo := HLO.out; omega)).mono (by have hlo := HLO.out; omega)
  · have hei : ¬ (er : Int) = 0 := by omega
    have hei2 : ((er : Int) == 0) = false := by simpa using he
    have HN := Lib.hid he
    clear HV0
    go_wp2_with (first | (with_reducible refine wpList_stB (row := #[.int .u64 0, .int .u64 0, .int .u64 0, .int .u64 0, .slice none 0 0]) insInfo (by simp [Value.oneCell']) rfl (.tmp 2) (.tmp 26) rfl rfl rfl HS8.out.res rfl ?_))
    refine bodyPost_ret (v := .tuple #[.agg #[.int .u64 0, .int .u64 0, .int .u64 0, .int .u64 0, .slice none 0 0], .int .i64 er]) ?_ rfl ⟨ReadPost.err HER.out HN.out _ _, below_setRow HS8.out.bel (by have hlo := HLO.out; omega) _⟩
    exact results_cs (fn := Try.f18) Try.results18 rfl (run_loadVar_blk insInfo insRow (setRow_heap _ _ _ _ _ _ HS8.out.res))
end Go.Proofs.Ytclnohifgjjngaa
