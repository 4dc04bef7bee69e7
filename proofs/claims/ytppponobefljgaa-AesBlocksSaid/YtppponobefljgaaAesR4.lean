/- What is proved: what against and expand of the reference answer when they are called; conditions: the key is sixteen bytes, the table lies where it is said to. -/
import Derived.Test.YtppponobefljgaaAesR3
import Derived.Test.YtppponobefljgaaAesD
set_option linter.unusedSimpArgs false
set_option linter.unusedVariables false
namespace Go.Proofs.Ytppponobefljgaa
open Go.RowKit
set_option maxRecDepth 100000
set_option maxHeartbeats 8000000
theorem ragainst_any (a b : Nat → Int) (w : World) : Calls Try.prog 29 #[.agg (rwb 16 a), .agg (rwb 16 b)] w fun e w' => e = .returned (.agg (rwb 16 fun j => bits .xor .u8 (a j) (b j))) ∧ Below w.heap.size w w' := by
  go_enter Try.func29, Try.ntmps29
  go_wp2_with fail
  rw [zeros16]
  go_loopw [5] (fun i wr => ∃ k : Nat, k ≤ 16 ∧ i = .int .i64 k ∧ Hid (wr.heap[w.heap.size]? = some (.cells (rwb 16 (fun j => if j < k then bits .xor .u8 (a j) (b j) else a j)) 28 (0, 0))) ∧ Hid (wr.heap[w.heap.size + 1]? = some (.cells (rwb 16 b) 28 (0, 0))) ∧ Hid (wr.heap[w.heap.size + 1 + 1]? = some (.cells (rwb 16 (fun _ => 0)) 28 (0, 0))) ∧ Hid (Below w.heap.size w wr)) (fun i _ => 16 - (intOf i).toNat)
  case atStart =>
    refine ⟨0, by omega, rfl, Lib.hid ?_, Lib.hid ?_, Lib.hid ?_, Lib.hid (by (repeat' (first | (with_reducible exact Below.refl _ _) | (with_reducible assumption) | (with_reducible refine Below.alloc ?_ ?_ _) | (with_reducible refine below_setRow ?_ ?_ _) | (with_reducible refine bl_drew ?_) | (with_reducible refine bl_drewN ?_ _) | (with_reducible refine Below.setCell ?_ ?_ _) | (with_reducible refine bl_then ?_ ?_ hb) | (with_reducible refine bl_then ?_ ?_ hb1) | (with_reducible refine bl_then ?_ ?_ hb2) | (with_reducible refine bl_then ?_ ?_ hb3) | (with_reducible refine bl_then ?_ ?_ hb4) | (with_reducible refine bl_then ?_ ?_ hb5) | (with_reducible refine bl_then ?_ ?_ hb6) | (with_reducible refine bl_then ?_ ?_ hb7) | (with_reducible refine bl_then ?_ ?_ hb8) | (with_reducible exact Nat.le_refl _) | omega | (simp only [World.size_alloc, World.size_setCell, World.size_drew, size_setRow]; omega) | (simp; omega) | (simp; done))))⟩
    · rw [rwb_congr (g := a) (fun j _ => if_neg (by omega))]
      (simp only [heap_setRow_if, heap_alloc_if, heap_setCell_if, World.size_alloc, size_setRow, World.size_setCell]; simp) <;> (intros; omega)
    · (simp only [heap_setRow_if, heap_alloc_if, heap_setCell_if, World.size_alloc, size_setRow, World.size_setCell]; simp) <;> (intros; omega)
    · (simp only [heap_setRow_if, heap_alloc_if, heap_setCell_if, World.size_alloc, size_setRow, World.size_setCell]; simp) <;> (intros; omega)
  case round =>
    obtain ⟨k, hk, rfl, HA, HB, HC, HL⟩ := hrel
    by_cases hlt : k < 16
    · have cx := cell_rwb HA.out hlt
      have cy := cell_rwb HB.out hlt
      rw [if_neg (by omega)] at cx
      have fx := frozen_of_row wr w.heap.size k _ _ HA.out
      have hki : (k : Int) < 16 := by omega
      have hk0 : (0 : Int) ≤ (k : Int) := by omega
      go_wp2_with fail
      go_region
      go_wp2_with fail
      go_roundw
      case rel =>
        refine ⟨k + 1, by omega, by go_num, Lib.hid ?_, Lib.hid ?_, Lib.hid ?_, Lib.hid (bl_drew (HL.out.setCell (by simp) _))⟩
        · refine (heap_setCell_same _ _ k _ _ _ HA.out).trans ?_
          rw [rwb_set _ _ hlt]
          congr 2
          refine rwb_congr fun j hj => ?_
          unfold upd
          by_cases e : j = k
          · rw [if_pos e, if_pos (by omega), e]
          · rw [if_neg e]
            show (if j < k then _ else _) = _
            by_cases e2 : j < k
            · rw [if_pos e2, if_pos (by omega)]
            · rw [if_neg e2, if_neg (by omega)]
        · exact (heap_setCell_other _ ⟨_, _, _⟩ _ _ (by simp)).trans HB.out
        · exact (heap_setCell_other _ ⟨_, _, _⟩ _ _ (by simp; omega)).trans HC.out
      case measure =>
        simp [intOf] <;> omega
    · obtain rfl : k = 16 := by omega
      have HA2 : Hid (wr.heap[w.heap.size]? = some (.cells (rwb 16 fun j => bits .xor .u8 (a j) (b j)) 28 (0, 0))) := Lib.hid (by
        rw [HA.out, rwb_congr (g := fun j => bits .xor .u8 (a j) (b j)) (fun j hj => if_pos hj)])
      clear HA
      go_wp2_with (first | (with_reducible refine wpList_ld rowBlock rfl (.tmp 2) rfl rfl HA2.out (by omega) (G := fun j => bits .xor .u8 (a j) (b j)) (fun j _ => by rw [Nat.zero_add]) ?_) | (with_reducible refine wpList_st rowBlock rfl (.tmp 4) (.tmp 18) rfl rfl rfl HC.out ?_))
      refine bodyPost_ret (v := .agg (rwb 16 fun j => bits .xor .u8 (a j) (b j))) ?_ rfl ?_
      · exact results_cell (fn := Try.f29) Try.results29 rfl (run_loadVar_rwb rowBlock (setRow_heap _ _ _ _ _ _ HC.out) (by omega) (fun j _ => by rw [Nat.zero_add]))
      · exact ⟨rfl, below_setRow HL.out (by omega) _⟩
/-- What lies where while the words are made: so many bytes of them. -/
structure XS (w wr : World) (T N D : Nat) (key : Nat → Int) (n : Nat) : Prop where
  hT : wr.heap[T]? = some (.cells (rwb 256 subI) 35 (0, 0))
  hN : wr.heap[N]? = some (.cells (rwb 16 key) 28 (0, 0))
  hR : wr.heap[N + 1]? = some (.cells (rwb 176 fun _ => 0) 31 (0, 0))
  hD : wr.heap[D]? = some (.cells (rwb 176 fun j => if j < n then kw key j else 0) 51 (0, 0))
  hL : Below N w wr
  lt : T < N ∧ D = N + 1 + 1 ∧ w.heap.size = N
structure XT (w wr : World) (T N D X : Nat) (key : Nat → Int) (n : Nat) (v : Nat → Int) : Prop where
  x : XS w wr T N D key n
  hX : wr.heap[X]? = some (.cells (rwb 4 v) 50 (0, 0))
  lt : D < X
theorem XS.invD {w wr : World} {T N D : Nat} {key : Nat → Int} {n : Nat} (h : XS w wr T N D key n) : Inv wr (fun q => q = D) (gh2 (some (D, .cells (rwb 176 fun j => if j < n then kw key j else 0) 51 (0, 0))) none) wr.drew :=
  Inv.start2 h.hD rfl (by rintro g o h; cases h)
theorem XT.invD {w wr : World} {T N D X : Nat} {key v : Nat → Int} {n : Nat} (h : XT w wr T N D X key n v) : Inv wr (fun q => q = D) (gh2 (some (D, .cells (rwb 176 fun j => if j < n then kw key j else 0) 51 (0, 0))) none) wr.drew := h.x.invD
theorem XT.invX {w wr : World} {T N D X : Nat} {key v : Nat → Int} {n : Nat} (h : XT w wr T N D X key n v) : Inv wr (fun q => q = X) (gh2 (some (X, .cells (rwb 4 v) 50 (0, 0))) none) wr.drew :=
  Inv.start2 h.hX rfl (by rintro g o h; cases h)
theorem XS.nextD {w wr w1 : World} {T N D : Nat} {key : Nat → Int} {n n' : Nat} {γ : Gh} (h : XS w wr T N D key n) (hI : Inv wr (fun q => q = D) γ w1) (hγ : γ 0 = some (D, .cells (rwb 176 fun j => if j < n' then kw key j else 0) 51 (0, 0))) : XS w w1 T N D key n' :=
  ⟨(hI.far T (lt_of_heap h.hT) (by have := h.lt; omega)).trans h.hT, (hI.far N (lt_of_heap h.hN) (by have := h.lt; omega)).trans h.hN, (hI.far (N + 1) (lt_of_heap h.hR) (by have := h.lt; omega)).trans h.hR, (hI.here 0 D _ hγ).1, hI.belowS h.hL (by have := lt_of_heap h.hN; omega) (by rintro q rfl; have := h.lt; omega), h.lt⟩
theorem XT.nextD {w wr w1 : World} {T N D X : Nat} {key v : Nat → Int} {n n' : Nat} {γ : Gh} (h : XT w wr T N D X key n v) (hI : Inv wr (fun q => q = D) γ w1) (hγ : γ 0 = some (D, .cells (rwb 176 fun j => if j < n' then kw key j else 0) 51 (0, 0))) : XT w w1 T N D X key n' v :=
  ⟨h.x.nextD hI hγ, (hI.far X (lt_of_heap h.hX) (by have := h.lt; omega)).trans h.hX, h.lt⟩
theorem XT.nextX {w wr w1 : World} {T N D X : Nat} {key v v' : Nat → Int} {n : Nat} {γ : Gh} (h : XT w wr T N D X key n v) (hI : Inv wr (fun q => q = X) γ w1) (hγ : γ 0 = some (X, .cells (rwb 4 v') 50 (0, 0))) : XT w w1 T N D X key n v' :=
  have l1 := h.lt
  have l2 := h.x.lt
  ⟨⟨(hI.far T (lt_of_heap h.x.hT) (by omega)).trans h.x.hT, (hI.far N (lt_of_heap h.x.hN) (by omega)).trans h.x.hN, (hI.far (N + 1) (lt_of_heap h.x.hR) (by omega)).trans h.x.hR, (hI.far D (lt_of_heap h.x.hD) (by omega)).trans h.x.hD, hI.belowS h.x.hL (by have := lt_of_heap h.x.hN; omega) (by rintro q rfl; omega), h.x.lt⟩, (hI.here 0 X _ hγ).1, h.lt⟩
theorem XT.cellX {w wr W : World} {T N D X : Nat} {key v : Nat → Int} {n : Nat} {γ : Gh} (h : XT w wr T N D X key n v) (hI : Inv wr (fun q => q = D) γ W) {j : Nat} (hj : j < 4) : W.cell? ⟨X, j, none⟩ = some (.int .u8 (v j)) :=
  cell_rwb ((hI.far X (lt_of_heap h.hX) (by have := h.lt; omega)).trans h.hX) hj
theorem XT.cellT {w wr W : World} {T N D X : Nat} {key v : Nat → Int} {n : Nat} {γ : Gh} (h : XT w wr T N D X key n v) (hI : Inv wr (fun q => q = X) γ W) {j : Nat} (hj : j < 256) : W.cell? ⟨T, j, none⟩ = some (.int .u8 (subI j)) :=
  cell_rwb ((hI.far T (lt_of_heap h.x.hT) (by have := h.lt; have := h.x.lt; omega)).trans h.x.hT) hj
/-- The word ahead, in a block of its own. -/
theorem XS.word {w wr : World} {T N D : Nat} {key : Nat → Int} {n : Nat} (h : XS w wr T N D key n) (c : Obj) (v : Nat → Int) (t : TypeId) (hc : ∃ old, c = .cells old t (0, 0)) (ht : t = 50) : XT w ((wr.alloc c).setRow wr.heap.size (rwb 4 v)) T N D wr.heap.size key n v := by
  obtain ⟨old, rfl⟩ := hc
  subst ht
  have h1 := lt_of_heap h.hT
  have h2 := lt_of_heap h.hN
  have h3 := lt_of_heap h.hR
  have h4 := lt_of_heap h.hD
  refine ⟨⟨?_, ?_, ?_, ?_, below_setRow (h.hL.alloc (by omega) _) (by omega) _, h.lt⟩, setRow_heap _ _ _ _ _ _ (heap_alloc_last _ _), h4⟩
  · rw [heap_setRow_if, if_neg (by omega), heap_alloc_if, if_neg (by omega)]; exact h.hT
  · rw [heap_setRow_if, if_neg (by omega), heap_alloc_if, if_neg (by omega)]; exact h.hN
  · rw [heap_setRow_if, if_neg (by omega), heap_alloc_if, if_neg (by omega)]; exact h.hR
  · rw [heap_setRow_if, if_neg (by omega), heap_alloc_if, if_neg (by omega)]; exact h.hD
theorem xw_step {key : Nat → Int} {q k : Nat} {vk y z : Int} (hk : k < 4) (hv : vk = turnK (q + 4) k (fun c => kw key (4 * (q + 3) + c))) (hy : kw key (4 * q + k) = y) (hz : vk = z) (j : Nat) (hj : j < 176) :
    upd (fun j => if j < 4 * (q + 4) + k then kw key j else 0) ((q + 4) * 4 + k) (bits .xor .u8 y z) j = (fun j => if j < 4 * (q + 4) + (k + 1) then kw key j else 0) j := by
  unfold upd
  show (if j = (q + 4) * 4 + k then bits .xor .u8 y z else (if j < 4 * (q + 4) + k then kw key j else 0)) = if j < 4 * (q + 4) + (k + 1) then kw key j else 0
  by_cases h : j = (q + 4) * 4 + k
  · rw [if_pos h, if_pos (by omega), h, kw_high key (by omega), show (q + 4) * 4 + k - 16 = 4 * q + k by omega, show ((q + 4) * 4 + k) / 4 = q + 4 by omega, show ((q + 4) * 4 + k) % 4 = k by omega, hy, ← hz, hv]
    rfl
  · rw [if_neg h]
    by_cases h2 : j < 4 * (q + 4) + k
    · rw [if_pos h2, if_pos (by omega)]
    · rw [if_neg h2, if_neg (by omega)]
theorem mul_2 (r : Nat) (h : r < 256) : mul r 2 = x2 r := by
  have key : ∀ r : Fin 256, mul r.val 2 = x2 r.val := by decide +kernel
  exact key ⟨r, h⟩
/-- The words copied out, so many of them. -/
structure XO (w wr : World) (N D O : Nat) (key : Nat → Int) (m : Nat) : Prop where
  hR : wr.heap[N + 1]? = some (.cells (rwb 176 fun _ => 0) 31 (0, 0))
  hD : wr.heap[D]? = some (.cells (rwb 176 (kw key)) 51 (0, 0))
  hO : wr.heap[O]? = some (.cells (rwb 176 fun j => if j < 4 * m then kw key j else 0) 31 (0, 0))
  hL : Below N w wr
  lt : D = N + 1 + 1 ∧ w.heap.size = N ∧ D < O
theorem XO.inv {w wr : World} {N D O : Nat} {key : Nat → Int} {m : Nat} (h : XO w wr N D O key m) : Inv wr (fun q => q = O) (gh2 (some (O, .cells (rwb 176 fun j => if j < 4 * m then kw key j else 0) 31 (0, 0))) none) wr.drew :=
  Inv.start2 h.hO rfl (by rintro g o h; cases h)
theorem XO.next {w wr w1 : World} {N D O : Nat} {key : Nat → Int} {m m' : Nat} {γ : Gh} (h : XO w wr N D O key m) (hI : Inv wr (fun q => q = O) γ w1) (hγ : γ 0 = some (O, .cells (rwb 176 fun j => if j < 4 * m' then kw key j else 0) 31 (0, 0))) : XO w w1 N D O key m' :=
  ⟨(hI.far (N + 1) (lt_of_heap h.hR) (by have := h.lt; omega)).trans h.hR, (hI.far D (lt_of_heap h.hD) (by have := h.lt; omega)).trans h.hD, (hI.here 0 O _ hγ).1, hI.belowS h.hL (by have := lt_of_heap h.hR; omega) (by rintro q rfl; have := h.lt; omega), h.lt⟩
theorem ovr_at (H : Nat → Int) (o m n p : Nat) (G : Nat → Int) (hp : p = o) (hn : n = o + m) (hG : ∀ c, c < m → G c = H (o + c)) (j : Nat) : ovr (fun j => if j < o then H j else 0) p m G j = (fun j => if j < n then H j else 0) j := by
  subst hp; subst hn
  show (if p ≤ j ∧ j < p + m then G (j - p) else (if j < p then H j else 0)) = if j < p + m then H j else 0
  rcases (by omega : j < p ∨ (p ≤ j ∧ j < p + m) ∨ p + m ≤ j) with h | h | h
  · rw [if_neg (by omega), if_pos h, if_pos (by omega)]
  · rw [if_pos h, if_pos (by omega), hG _ (by omega), show p + (j - p) = j by omega]
  · rw [if_neg (by omega), if_neg (by omega), if_neg (by omega)]
theorem rexpand_any (T : Nat) (key : Nat → Int) (hk : By key) (w : World) (hT : w.heap[T]? = some (.cells (rwb 256 subI) 35 (0, 0))) : Calls Try.prog 26 #[.pointer (some ⟨T, 0, none⟩), .agg (rwb 16 key)] w fun e w' => e = .returned (.agg (rwb 176 (kw key))) ∧ Below w.heap.size w w' := by
  have hz1 := zero31
  have hz2 := zero51
  have HTT := Lib.hid hT
  have hTl := lt_of_heap hT
  have HKB := Lib.hid (kw_b key hk)
  clear hT hk
  go_enter Try.func26, Try.ntmps26
  go_wp2_with fail
  clear hz2
  obtain ⟨N, hN⟩ : ∃ N, w.heap.size = N := ⟨_, rfl⟩
  obtain ⟨D, hD⟩ : ∃ D, N + 1 + 1 = D := ⟨_, rfl⟩
  obtain ⟨V, hV⟩ : ∃ V, ((w.alloc (.cells (rwb 16 key) 28)).alloc (.cells (rwb 176 fun _ => 0) 31)).alloc (.cells (rwb 176 fun _ => 0) 51) = V := ⟨_, rfl⟩
  have hS : XS w V T N D key (4 * 0) := by
    refine ⟨?_, ?_, ?_, ?_, ?_, by omega, hD.symm, hN⟩
    · rw [← hV, heap_alloc_if, if_neg (by simp; omega), heap_alloc_if, if_neg (by simp; omega), heap_alloc_if, if_neg (by omega)]; exact HTT.out
    · rw [← hV, ← hN]; (simp only [heap_setRow_if, heap_alloc_if, heap_setCell_if, World.size_alloc, size_setRow, World.size_setCell]; simp) <;> (intros; omega)
    · rw [← hV, ← hN]; (simp only [heap_setRow_if, heap_alloc_if, heap_setCell_if, World.size_alloc, size_setRow, World.size_setCell]; simp) <;> (intros; omega)
    · rw [rwb_congr (f := fun j => if j < 4 * 0 then kw key j else 0) (g := fun _ => 0) (fun j _ => if_neg (by omega)), ← hV, ← hD, ← hN]; (simp only [heap_setRow_if, heap_alloc_if, heap_setCell_if, World.size_alloc, size_setRow, World.size_setCell]; simp) <;> (intros; omega)
    · rw [← hV, ← hN]; (repeat' (first | (with_reducible exact Below.refl _ _) | (with_reducible assumption) | (with_reducible refine Below.alloc ?_ ?_ _) | (with_reducible refine below_setRow ?_ ?_ _) | (with_reducible refine bl_drew ?_) | (with_reducible refine bl_drewN ?_ _) | (with_reducible refine Below.setCell ?_ ?_ _) | (with_reducible refine bl_then ?_ ?_ hb) | (with_reducible refine bl_then ?_ ?_ hb1) | (with_reducible refine bl_then ?_ ?_ hb2) | (with_reducible refine bl_then ?_ ?_ hb3) | (with_reducible refine bl_then ?_ ?_ hb4) | (with_reducible refine bl_then ?_ ?_ hb5) | (with_reducible refine bl_then ?_ ?_ hb6) | (with_reducible refine bl_then ?_ ?_ hb7) | (with_reducible refine bl_then ?_ ?_ hb8) | (with_reducible exact Nat.le_refl _) | omega | (simp only [World.size_alloc, World.size_setCell, World.size_drew, size_setRow]; omega) | (simp; omega) | (simp; done)))
  rw [hV, hN, hD]
  clear hV HTT
  go_loopw [6, 7] (fun r i wr => ∃ n : Nat, n ≤ 44 ∧ i = .int .i64 n ∧ r = .int .u8 (rcT ((n - 1) / 4) : Nat) ∧ XS w wr T N D key (4 * n)) (fun _ i _ => 44 - (intOf i).toNat)
  case atStart => exact ⟨0, by omega, rfl, rfl, hS⟩
  case round =>
    clear hS
    obtain ⟨n, hn, rfl, rfl, hS⟩ := hrel
    by_cases hlt : n < 44
    · have hni : (n : Int) < 44 := by omega
      have hn0 : (0 : Int) ≤ (n : Int) := by omega
      by_cases hn4 : n < 4
      · have hn4i : (n : Int) < 4 := by omega
        have hrc : rcT ((n - 1) / 4) = 1 := by rw [show (n - 1) / 4 = 0 by omega]; rfl
        have hrc2 : rcT ((n + 1 - 1) / 4) = 1 := by rw [show (n + 1 - 1) / 4 = 0 by omega]; rfl
        rw [hrc]
        have hw4 : IntKind.i64.wrap (4 * (n : Int)) = 4 * (n : Int) := IntWalk.i64_in _ (by omega)
        have hw5 : IntKind.i64.wrap (4 * (n : Int) + 4) = 4 * (n : Int) + 4 := IntWalk.i64_in _ (by omega)
        have ht4 : (4 * (n : Int)).toNat = 4 * n := by omega
        have ht5 : (4 * (n : Int) + 4).toNat = 4 * n + 4 := by omega
        have hl0 : (0 : Int) ≤ 4 * (n : Int) := by omega
        have hl1 : 4 * (n : Int) ≤ 4 * (n : Int) + 4 := by omega
        have hl2 : 4 * (n : Int) + 4 ≤ 16 := by omega
        have hl3 : (0 : Int) ≤ 4 * (n : Int) + 4 := by omega
        have hne : ¬ (16 : Nat) = 4 * n := by omega
        have HRC2 := Lib.hid hrc2
        clear hrc hrc2
        go_wp2_with fail
        apply wp_region_eff _ _ hS.invD (hm := by kernel_rfl)
        case h =>
          (apply SeqF.pure; (focus (first | rfl | (go_simp; done) | (simp [Region.wanted, yielded]; done))); (focus (intro w; go_simp; with_reducible rfl)); go_simp)
          (apply SeqF.pure; (focus (first | rfl | (go_simp; done) | (simp [Region.wanted, yielded]; done))); (focus (intro w; go_simp; with_reducible rfl)); go_simp)
          (apply SeqF.pure; (focus (first | rfl | (go_simp; done) | (simp [Region.wanted, yielded]; done))); (focus (intro w; go_simp; with_reducible rfl)); go_simp)
          (apply SeqF.pure; (focus (first | rfl | (go_simp; done) | (simp [Region.wanted, yielded]; done))); (focus (intro w; go_simp; with_reducible rfl)); go_simp)
          (apply SeqF.pure; (focus (first | rfl | (go_simp; done) | (simp [Region.wanted, yielded]; done))); (focus (intro w; go_simp; with_reducible rfl)); go_simp)
          (apply SeqF.pure; (focus (first | rfl | (go_simp; done) | (simp [Region.wanted, yielded]; done))); (focus (intro w; go_simp; with_reducible rfl)); go_simp)
          (apply SeqF.pure; (focus (first | rfl | (go_simp; done) | (simp [Region.wanted, yielded]; done))); (focus (intro w; go_simp; with_reducible rfl)); go_simp)
          (apply SeqF.pure; (focus (first | rfl | (go_simp; done) | (simp [Region.wanted, yielded]; done))); (focus (intro w; go_simp; with_reducible rfl)); go_simp)
          (apply SeqF.pure; (focus (first | rfl | (go_simp; done) | (simp [Region.wanted, yielded]; done))); (focus (intro w; go_simp; with_reducible rfl)); go_simp)
          apply SeqF.copyR [0] 0 D 4 (.cells (rwb 176 fun j => if j < 4 * n then kw key j else 0) 51 (0, 0)) rfl (by simp) (.cells (rwb 176 fun j => if j < 4 * (n + 1) then kw key j else 0) 51 (0, 0))
          · (first | rfl | (go_simp; done) | (simp [Region.wanted, yielded]; done))
          · exact fun γ' W hg hI hW => ⟨_, exec_copy rfl rfl rfl (run_copy_ovr (G := fun j => key (4 * n + j)) hW ((hI.far N (lt_of_heap hS.hN) (by have := hS.lt; omega)).trans hS.hN) (by omega) (by omega) (by omega) (fun j _ => rfl)), by rw [rwb_congr (fun j _ => ovr_at (kw key) (4 * n) 4 (4 * (n + 1)) _ _ (by omega) (by omega) (fun c hc => (kw_low key (by omega)).symm) j)]; exact only_setRow hW⟩
          go_simp
          apply SeqF.done
          intro w9 hI9
          have hS9 := hS.nextD hI9 (Gh.set_here _ _ _)
          clear hI9 hS
          go_simp
          go_wp2_with fail
          go_roundw
          case rel =>
            first
              | exact ⟨n + 1, by omega, by go_num, by rw [HRC2.out]; rfl, hS9⟩
              | ((repeat apply Exists.intro); refine ⟨?_, rfl⟩; exact ⟨n + 1, by omega, by go_num, by rw [HRC2.out]; rfl, hS9⟩)
          case measure => first | (simp [intOf]; done) | (simp [intOf]; omega)
        case hl => rfl
        case ho => kernel_rfl
      · have hn4i : ¬ (n : Int) < 4 := by omega
        obtain ⟨q, rfl⟩ : ∃ q, n = q + 4 := ⟨n - 4, by omega⟩
        obtain ⟨r, hr⟩ : ∃ r, rcT ((q + 4 - 1) / 4) = r := ⟨_, rfl⟩
        have hrl : r < 256 := by rw [← hr]; exact rcT_lt _
        rw [hr]
        have HRE := Lib.hid hr
        clear hr
        obtain ⟨v0, hv0⟩ : ∃ v : Nat → Int, v = fun c => kw key (4 * (q + 3) + c) := ⟨_, rfl⟩
        have HV0 := Lib.hid hv0
        have HG : Hid (∀ c, c < 4 → (fun j => if j < 4 * (q + 4) then kw key j else 0) ((q + 3) * 4 + c) = v0 c) := Lib.hid (fun c hc => by
          rw [hv0]
          show (if (q + 3) * 4 + c < 4 * (q + 4) then kw key ((q + 3) * 4 + c) else 0) = kw key (4 * (q + 3) + c)
          rw [if_pos (by omega), show (q + 3) * 4 + c = 4 * (q + 3) + c by omega])
        have hvb : ∀ c, 0 ≤ v0 c ∧ v0 c ≤ 255 := fun c => by rw [hv0]; exact HKB.out _
        clear hv0
        obtain ⟨X, hX⟩ : ∃ X, wr.heap.size = X := ⟨_, rfl⟩
        obtain ⟨A, hA⟩ : ∃ A, wr.alloc (.cells #[.int .u8 0, .int .u8 0, .int .u8 0, .int .u8 0] 50) = A := ⟨_, rfl⟩
        have HA : Hid (A.heap[X]? = some (.cells (rwb 4 fun _ => 0) 50 (0, 0))) := Lib.hid (by rw [← hA, ← hX]; exact heap_alloc_last _ _)
        have hXT : XT w (A.setRow X (rwb 4 v0)) T N D X key (4 * (q + 4)) v0 := by
          rw [← hA, ← hX]
          exact hS.word _ v0 50 ⟨_, rfl⟩ rfl
        obtain ⟨B, hB⟩ : ∃ B, A.setRow X (rwb 4 v0) = B := ⟨_, rfl⟩
        rw [hB] at hXT
        have HSD := Lib.hid hS.hD
        clear hS
        by_cases h4 : (q + 4) % 4 = 0
        · have h4i : ((q : Int) % 4 == 0) = true := by simp; omega
          have h4j : (q : Int) % 4 = 0 := by omega
          obtain ⟨u0, hu0⟩ := Int.eq_ofNat_of_zero_le (hvb 0).1
          obtain ⟨u1, hu1⟩ := Int.eq_ofNat_of_zero_le (hvb 1).1
          obtain ⟨u2, hu2⟩ := Int.eq_ofNat_of_zero_le (hvb 2).1
          obtain ⟨u3, hu3⟩ := Int.eq_ofNat_of_zero_le (hvb 3).1
          have b0 : u0 < 256 := by have := hvb 0; omega
          have b1 : u1 < 256 := by have := hvb 1; omega
          have b2 : u2 < 256 := by have := hvb 2; omega
          have b3 : u3 < 256 := by have := hvb 3; omega
          have b0i : (u0 : Int) < 256 := by omega
          have b1i : (u1 : Int) < 256 := by omega
          have b2i : (u2 : Int) < 256 := by omega
          have b3i : (u3 : Int) < 256 := by omega
          have HU0 := Lib.hid hu0
          have HU1 := Lib.hid hu1
          have HU2 := Lib.hid hu2
          have HU3 := Lib.hid hu3
          clear hu0 hu1 hu2 hu3 hvb
          go_wp2_with (first | (with_reducible refine wpList_ld rowWord rfl (.tmp 30) rfl rfl HSD.out (by omega) (G := v0) HG.out ?_) | (with_reducible refine wpList_st rowWord rfl (.tmp 8) (.tmp 31) rfl rfl rfl HA.out ?_))
          clear HSD HA hA hX hB
          apply wp_region_eff _ _ hXT.invX (hm := by kernel_rfl)
          case h =>
            (apply SeqF.pure; (focus (first | rfl | (go_simp; done) | (simp [Region.wanted, yielded]; done))); (focus (intro w; go_simp; with_reducible rfl)); go_simp)
            (apply SeqF.pure; (focus (first | rfl | (go_simp; done) | (simp [Region.wanted, yielded]; done))); (focus (intro w; go_simp; with_reducible rfl)); go_simp)
            apply SeqF.read (v := .int .u8 (u1 : Nat)) [0]
            · (first | rfl | (go_simp; done) | (simp [Region.wanted, yielded]; done))
            · intro γ' W hg hI
              have x0 := cell_rwb (i := 1) (hI.here 0 X _ ((hg 0 (by simp)).trans rfl)).1 (by omega)
              rw [HU1.out] at x0
              go_simp
            go_simp
            (apply SeqF.pure; (focus (first | rfl | (go_simp; done) | (simp [Region.wanted, yielded]; done))); (focus (intro w; go_simp; with_reducible rfl)); go_simp)
            (apply SeqF.pure; (focus (first | rfl | (go_simp; done) | (simp [Region.wanted, yielded]; done))); (focus (intro w; go_simp; with_reducible rfl)); go_simp)
            apply SeqF.read (v := .int .u8 (subI u1)) []
            · (first | rfl | (go_simp; done) | (simp [Region.wanted, yielded]; done))
            · intro γ' W hg hI
              have x0 := hXT.cellT hI b1
              go_simp
            go_simp
            (apply SeqF.pure; (focus (first | rfl | (go_simp; done) | (simp [Region.wanted, yielded]; done))); (focus (intro w; go_simp; with_reducible rfl)); go_simp)
            (apply SeqF.pure; (focus (first | rfl | (go_simp; done) | (simp [Region.wanted, yielded]; done))); (focus (intro w; go_simp; with_reducible rfl)); go_simp)
            (apply SeqF.pure; (focus (first | rfl | (go_simp; done) | (simp [Region.wanted, yielded]; done))); (focus (intro w; go_simp; with_reducible rfl)); go_simp)
            (apply SeqF.pure; (focus (first | rfl | (go_simp; done) | (simp [Region.wanted, yielded]; done))); (focus (intro w; go_simp; with_reducible rfl)); go_simp)
            apply SeqF.read (v := .int .u8 (u2 : Nat)) [0]
            · (first | rfl | (go_simp; done) | (simp [Region.wanted, yielded]; done))
            · intro γ' W hg hI
              have x0 := cell_rwb (i := 2) (hI.here 0 X _ ((hg 0 (by simp)).trans rfl)).1 (by omega)
              rw [HU2.out] at x0
              go_simp
            go_simp
            (apply SeqF.pure; (focus (first | rfl | (go_simp; done) | (simp [Region.wanted, yielded]; done))); (focus (intro w; go_simp; with_reducible rfl)); go_simp)
            (apply SeqF.pure; (focus (first | rfl | (go_simp; done) | (simp [Region.wanted, yielded]; done))); (focus (intro w; go_simp; with_reducible rfl)); go_simp)
            apply SeqF.read (v := .int .u8 (subI u2)) []
            · (first | rfl | (go_simp; done) | (simp [Region.wanted, yielded]; done))
            · intro γ' W hg hI
              have x0 := hXT.cellT hI b2
              go_simp
            go_simp
            (apply SeqF.pure; (focus (first | rfl | (go_simp; done) | (simp [Region.wanted, yielded]; done))); (focus (intro w; go_simp; with_reducible rfl)); go_simp)
            (apply SeqF.pure; (focus (first | rfl | (go_simp; done) | (simp [Region.wanted, yielded]; done))); (focus (intro w; go_simp; with_reducible rfl)); go_simp)
            apply SeqF.read (v := .int .u8 (u3 : Nat)) [0]
            · (first | rfl | (go_simp; done) | (simp [Region.wanted, yielded]; done))
            · intro γ' W hg hI
              have x0 := cell_rwb (i := 3) (hI.here 0 X _ ((hg 0 (by simp)).trans rfl)).1 (by omega)
              rw [HU3.out] at x0
              go_simp
            go_simp
            (apply SeqF.pure; (focus (first | rfl | (go_simp; done) | (simp [Region.wanted, yielded]; done))); (focus (intro w; go_simp; with_reducible rfl)); go_simp)
            (apply SeqF.pure; (focus (first | rfl | (go_simp; done) | (simp [Region.wanted, yielded]; done))); (focus (intro w; go_simp; with_reducible rfl)); go_simp)
            apply SeqF.read (v := .int .u8 (subI u3)) []
            · (first | rfl | (go_simp; done) | (simp [Region.wanted, yielded]; done))
            · intro γ' W hg hI
              have x0 := hXT.cellT hI b3
              go_simp
            go_simp
            (apply SeqF.pure; (focus (first | rfl | (go_simp; done) | (simp [Region.wanted, yielded]; done))); (focus (intro w; go_simp; with_reducible rfl)); go_simp)
            (apply SeqF.pure; (focus (first | rfl | (go_simp; done) | (simp [Region.wanted, yielded]; done))); (focus (intro w; go_simp; with_reducible rfl)); go_simp)
            apply SeqF.read (v := .int .u8 (u0 : Nat)) [0]
            · (first | rfl | (go_simp; done) | (simp [Region.wanted, yielded]; done))
            · intro γ' W hg hI
              have x0 := cell_rwb (i := 0) (hI.here 0 X _ ((hg 0 (by simp)).trans rfl)).1 (by omega)
              rw [HU0.out] at x0
              go_simp
            go_simp
            (apply SeqF.pure; (focus (first | rfl | (go_simp; done) | (simp [Region.wanted, yielded]; done))); (focus (intro w; go_simp; with_reducible rfl)); go_simp)
            (apply SeqF.pure; (focus (first | rfl | (go_simp; done) | (simp [Region.wanted, yielded]; done))); (focus (intro w; go_simp; with_reducible rfl)); go_simp)
            apply SeqF.read (v := .int .u8 (subI u0)) []
            · (first | rfl | (go_simp; done) | (simp [Region.wanted, yielded]; done))
            · intro γ' W hg hI
              have x0 := hXT.cellT hI b0
              go_simp
            go_simp
            (apply SeqF.pure; (focus (first | rfl | (go_simp; done) | (simp [Region.wanted, yielded]; done))); (focus (intro w; go_simp; with_reducible rfl)); go_simp)
            apply SeqF.store [0] 0 X (.cells (rwb 4 v0) 50 (0, 0)) rfl (by simp) (fun _ => .cells (rwb 4 (G4 (bits .xor .u8 (subI u1) (r : Int)) (subI u2) (subI u3) (subI u0))) 50 (0, 0))
            · exact fun _ _ => rfl
            · (first | rfl | (go_simp; done) | (simp [Region.wanted, yielded]; done))
            · exact fun γ' W hg hI hW => ⟨_, exec_store (v := .agg (rwb 4 (G4 (bits .xor .u8 (subI u1) (r : Int)) (subI u2) (subI u3) (subI u0)))) rfl rfl (by kernel_rfl) (run_store_rwb rowWord hW), only_setRow hW⟩
            go_simp
            apply SeqF.done
            intro w1 hI1
            have hX0 := hXT.nextX hI1 (Gh.set_here _ _ _)
            have hv : Hid (∀ c, c < 4 → (G4 (bits .xor .u8 (subI u1) (r : Int)) (subI u2) (subI u3) (subI u0)) c = turnK (q + 4) c (fun c => kw key (4 * (q + 3) + c))) := Lib.hid (fun c hc => by
              have er : rcT ((q + 4) / 4 - 1) = r := by rw [← HRE.out]; congr 1; omega
              have e : ∀ c, kw key (4 * (q + 3) + c) = v0 c := fun c => by rw [HV0.out]
              unfold turnK
              rw [if_pos h4]
              show _ = if c = 0 then xr (sbI (kw key (4 * (q + 3) + 1))) _ else if c = 3 then sbI (kw key (4 * (q + 3) + 0)) else sbI (kw key (4 * (q + 3) + (c + 1)))
              rw [e, e, e, er, HU0.out, HU1.out]
              rcases (by omega : c = 0 ∨ c = 1 ∨ c = 2 ∨ c = 3) with rfl | rfl | rfl | rfl
              · rfl
              · show _ = sbI (v0 2)
                rw [HU2.out]; rfl
              · show _ = sbI (v0 3)
                rw [HU3.out]; rfl
              · rfl)
            obtain ⟨v, hvv⟩ : ∃ v, G4 (bits .xor .u8 (subI u1) (r : Int)) (subI u2) (subI u3) (subI u0) = v := ⟨_, rfl⟩
            rw [hvv] at hX0 hv
            have HRN : Hid (rcT ((q + 4 + 1 - 1) / 4) = x2 r) := Lib.hid (by
              rw [← HRE.out, show (q + 4 + 1 - 1) / 4 = (q + 4 - 1) / 4 + 1 by omega]
              rfl)
            clear hI1 hXT hvv
            go_simp
            go_wp2_with fail
            refine (rtimes_any r 2 _ hrl (by omega)).mono ?_
            rintro e w2 ⟨rfl, rfl⟩
            rw [mul_2 r hrl]
            have hX1 : XT w w2 T N D X key (4 * (q + 4) + 0) v := hX0
            clear hX0
            go_wp2_with fail
            go_loopw [9] (fun i wr => ∃ k : Nat, k ≤ 4 ∧ i = .int .i64 k ∧ XT w wr T N D X key (4 * (q + 4) + k) v) (fun i _ => 4 - (intOf i).toNat)
            case atStart => exact ⟨0, by omega, rfl, hX1⟩
            case round =>
              clear hX1
              obtain ⟨k, hk, rfl, hX1⟩ := hrel
              by_cases hk4 : k < 4
              · have hki : (k : Int) < 4 := by omega
                have hk0 : (0 : Int) ≤ (k : Int) := by omega
                have hwq : IntKind.i64.wrap (q : Int) = (q : Int) := IntWalk.i64_in _ (by omega)
                have hq0 : (0 : Int) ≤ (q : Int) := by omega
                have hq4 : (q : Int) < 44 := by omega
                have hqa : (q : Int) + 4 < 44 := by omega
                have hqb : (0 : Int) ≤ (q : Int) + 4 := by omega
                have hqn : ((q : Int) + 4).toNat = q + 4 := by omega
                have hil : (q + 4) * 4 + k < 176 := by omega
                obtain ⟨y, hy⟩ : ∃ y, kw key (4 * q + k) = y := ⟨_, rfl⟩
                obtain ⟨z, hz⟩ : ∃ z, v k = z := ⟨_, rfl⟩
                have HST := Lib.hid (xw_step (key := key) hk4 (hv.out k hk4) hy hz)
                have HY := Lib.hid hy
                have HZ := Lib.hid hz
                clear hy hz
                go_wp2_with fail
                apply wp_region_eff _ _ hX1.invD (hm := by kernel_rfl)
                case h =>
                  (apply SeqF.pure; (focus (first | rfl | (go_simp; done) | (simp [Region.wanted, yielded]; done))); (focus (intro w; go_simp; with_reducible rfl)); go_simp)
                  (apply SeqF.pure; (focus (first | rfl | (go_simp; done) | (simp [Region.wanted, yielded]; done))); (focus (intro w; go_simp; with_reducible rfl)); go_simp)
                  (apply SeqF.pure; (focus (first | rfl | (go_simp; done) | (simp [Region.wanted, yielded]; done))); (focus (intro w; go_simp; with_reducible rfl)); go_simp)
                  (apply SeqF.pure; (focus (first | rfl | (go_simp; done) | (simp [Region.wanted, yielded]; done))); (focus (intro w; go_simp; with_reducible rfl)); go_simp)
                  (apply SeqF.pure; (focus (first | rfl | (go_simp; done) | (simp [Region.wanted, yielded]; done))); (focus (intro w; go_simp; with_reducible rfl)); go_simp)
                  (apply SeqF.pure; (focus (first | rfl | (go_simp; done) | (simp [Region.wanted, yielded]; done))); (focus (intro w; go_simp; with_reducible rfl)); go_simp)
                  (apply SeqF.pure; (focus (first | rfl | (go_simp; done) | (simp [Region.wanted, yielded]; done))); (focus (intro w; go_simp; with_reducible rfl)); go_simp)
                  apply SeqF.read (v := .int .u8 y) [0]
                  · (first | rfl | (go_simp; done) | (simp [Region.wanted, yielded]; done))
                  · intro γ' W hg hI
                    have x0 := cell_rwb (i := q * 4 + k) (hI.here 0 D _ ((hg 0 (by simp)).trans rfl)).1 (by omega)
                    rw [if_pos (by omega), show q * 4 + k = 4 * q + k by omega, HY.out, show 4 * q + k = q * 4 + k by omega] at x0
                    go_simp
                  go_simp
                  (apply SeqF.pure; (focus (first | rfl | (go_simp; done) | (simp [Region.wanted, yielded]; done))); (focus (intro w; go_simp; with_reducible rfl)); go_simp)
                  (apply SeqF.pure; (focus (first | rfl | (go_simp; done) | (simp [Region.wanted, yielded]; done))); (focus (intro w; go_simp; with_reducible rfl)); go_simp)
                  apply SeqF.read (v := .int .u8 z) []
                  · (first | rfl | (go_simp; done) | (simp [Region.wanted, yielded]; done))
                  · intro γ' W hg hI
                    have x0 := hX1.cellX hI hk4
                    rw [HZ.out] at x0
                    go_simp
                  go_simp
                  (apply SeqF.pure; (focus (first | rfl | (go_simp; done) | (simp [Region.wanted, yielded]; done))); (focus (intro w; go_simp; with_reducible rfl)); go_simp)
                  (apply SeqF.pure; (focus (first | rfl | (go_simp; done) | (simp [Region.wanted, yielded]; done))); (focus (intro w; go_simp; with_reducible rfl)); go_simp)
                  (apply SeqF.pure; (focus (first | rfl | (go_simp; done) | (simp [Region.wanted, yielded]; done))); (focus (intro w; go_simp; with_reducible rfl)); go_simp)
                  apply SeqF.store [0] 0 D (.cells (rwb 176 fun j => if j < 4 * (q + 4) + k then kw key j else 0) 51 (0, 0)) rfl (by simp) (fun _ => .cells (rwb 176 fun j => if j < 4 * (q + 4) + (k + 1) then kw key j else 0) 51 (0, 0))
                  · exact fun _ _ => rfl
                  · (first | rfl | (go_simp; done) | (simp [Region.wanted, yielded]; done))
                  · exact fun γ' W hg hI hW => exec_stc rfl rfl rfl hil HST.out hW
                  go_simp
                  apply SeqF.done
                  intro w9 hI9
                  have hX9 := hX1.nextD hI9 (Gh.set_here _ _ _)
                  clear hI9 hX1
                  go_simp
                  go_wp2_with fail
                  go_roundw
                  case rel =>
                    first
                      | exact ⟨k + 1, by omega, by go_num, hX9⟩
                      | ((repeat apply Exists.intro); refine ⟨?_, rfl⟩; exact ⟨k + 1, by omega, by go_num, hX9⟩)
                  case measure => first | (simp [intOf]; done) | (simp [intOf]; omega)
                case hl => rfl
                case ho => kernel_rfl
              · obtain rfl : k = 4 := by omega
                have hX9 : XS w wr T N D key (4 * (q + 4 + 1)) := hX1.x
                go_wp2_with fail
                go_roundw
                case rel =>
                  first
                    | exact ⟨q + 4 + 1, by omega, by go_num, by rw [HRN.out], hX9⟩
                    | ((repeat apply Exists.intro); refine ⟨?_, rfl⟩; exact ⟨q + 4 + 1, by omega, by go_num, by rw [HRN.out], hX9⟩)
                case measure => first | (simp [intOf]; done) | (simp [intOf]; omega)
          case hl => rfl
          case ho => kernel_rfl
        · have h4i : ((q : Int) % 4 == 0) = false := by simp; omega
          have h4j : ¬ (q : Int) % 4 = 0 := by omega
          have hv : Hid (∀ c, c < 4 → v0 c = turnK (q + 4) c (fun c => kw key (4 * (q + 3) + c))) := Lib.hid (fun c hc => by
            unfold turnK
            rw [if_neg h4, HV0.out])
          have HRN : Hid (rcT ((q + 4 + 1 - 1) / 4) = r) := Lib.hid (by rw [← HRE.out]; congr 1; omega)
          clear hvb
          go_wp2_with (first | (with_reducible refine wpList_ld rowWord rfl (.tmp 30) rfl rfl HSD.out (by omega) (G := v0) HG.out ?_) | (with_reducible refine wpList_st rowWord rfl (.tmp 8) (.tmp 31) rfl rfl rfl HA.out ?_))
          clear HSD HA hA hX hB
          rw [show ((q : Int) + 4) % 4 = (q : Int) % 4 by omega]
          obtain ⟨v, hvv⟩ : ∃ v, v0 = v := ⟨_, rfl⟩
          rw [hvv] at hXT hv
          have hX1 : XT w B T N D X key (4 * (q + 4) + 0) v := hXT
          clear hXT hvv
          go_loopw [9] (fun i wr => ∃ k : Nat, k ≤ 4 ∧ i = .int .i64 k ∧ XT w wr T N D X key (4 * (q + 4) + k) v) (fun i _ => 4 - (intOf i).toNat)
          case atStart => exact ⟨0, by omega, rfl, hX1⟩
          case round =>
            clear hX1
            obtain ⟨k, hk, rfl, hX1⟩ := hrel
            by_cases hk4 : k < 4
            · have hki : (k : Int) < 4 := by omega
              have hk0 : (0 : Int) ≤ (k : Int) := by omega
              have hwq : IntKind.i64.wrap (q : Int) = (q : Int) := IntWalk.i64_in _ (by omega)
              have hq0 : (0 : Int) ≤ (q : Int) := by omega
              have hq4 : (q : Int) < 44 := by omega
              have hqa : (q : Int) + 4 < 44 := by omega
              have hqb : (0 : Int) ≤ (q : Int) + 4 := by omega
              have hqn : ((q : Int) + 4).toNat = q + 4 := by omega
              have hil : (q + 4) * 4 + k < 176 := by omega
              obtain ⟨y, hy⟩ : ∃ y, kw key (4 * q + k) = y := ⟨_, rfl⟩
              obtain ⟨z, hz⟩ : ∃ z, v k = z := ⟨_, rfl⟩
              have HST := Lib.hid (xw_step (key := key) hk4 (hv.out k hk4) hy hz)
              have HY := Lib.hid hy
              have HZ := Lib.hid hz
              clear hy hz
              go_wp2_with fail
              apply wp_region_eff _ _ hX1.invD (hm := by kernel_rfl)
              case h =>
                (apply SeqF.pure; (focus (first | rfl | (go_simp; done) | (simp [Region.wanted, yielded]; done))); (focus (intro w; go_simp; with_reducible rfl)); go_simp)
                (apply SeqF.pure; (focus (first | rfl | (go_simp; done) | (simp [Region.wanted, yielded]; done))); (focus (intro w; go_simp; with_reducible rfl)); go_simp)
                (apply SeqF.pure; (focus (first | rfl | (go_simp; done) | (simp [Region.wanted, yielded]; done))); (focus (intro w; go_simp; with_reducible rfl)); go_simp)
                (apply SeqF.pure; (focus (first | rfl | (go_simp; done) | (simp [Region.wanted, yielded]; done))); (focus (intro w; go_simp; with_reducible rfl)); go_simp)
                (apply SeqF.pure; (focus (first | rfl | (go_simp; done) | (simp [Region.wanted, yielded]; done))); (focus (intro w; go_simp; with_reducible rfl)); go_simp)
                (apply SeqF.pure; (focus (first | rfl | (go_simp; done) | (simp [Region.wanted, yielded]; done))); (focus (intro w; go_simp; with_reducible rfl)); go_simp)
                (apply SeqF.pure; (focus (first | rfl | (go_simp; done) | (simp [Region.wanted, yielded]; done))); (focus (intro w; go_simp; with_reducible rfl)); go_simp)
                apply SeqF.read (v := .int .u8 y) [0]
                · (first | rfl | (go_simp; done) | (simp [Region.wanted, yielded]; done))
                · intro γ' W hg hI
                  have x0 := cell_rwb (i := q * 4 + k) (hI.here 0 D _ ((hg 0 (by simp)).trans rfl)).1 (by omega)
                  rw [if_pos (by omega), show q * 4 + k = 4 * q + k by omega, HY.out, show 4 * q + k = q * 4 + k by omega] at x0
                  go_simp
                go_simp
                (apply SeqF.pure; (focus (first | rfl | (go_simp; done) | (simp [Region.wanted, yielded]; done))); (focus (intro w; go_simp; with_reducible rfl)); go_simp)
                (apply SeqF.pure; (focus (first | rfl | (go_simp; done) | (simp [Region.wanted, yielded]; done))); (focus (intro w; go_simp; with_reducible rfl)); go_simp)
                apply SeqF.read (v := .int .u8 z) []
                · (first | rfl | (go_simp; done) | (simp [Region.wanted, yielded]; done))
                · intro γ' W hg hI
                  have x0 := hX1.cellX hI hk4
                  rw [HZ.out] at x0
                  go_simp
                go_simp
                (apply SeqF.pure; (focus (first | rfl | (go_simp; done) | (simp [Region.wanted, yielded]; done))); (focus (intro w; go_simp; with_reducible rfl)); go_simp)
                (apply SeqF.pure; (focus (first | rfl | (go_simp; done) | (simp [Region.wanted, yielded]; done))); (focus (intro w; go_simp; with_reducible rfl)); go_simp)
                (apply SeqF.pure; (focus (first | rfl | (go_simp; done) | (simp [Region.wanted, yielded]; done))); (focus (intro w; go_simp; with_reducible rfl)); go_simp)
                apply SeqF.store [0] 0 D (.cells (rwb 176 fun j => if j < 4 * (q + 4) + k then kw key j else 0) 51 (0, 0)) rfl (by simp) (fun _ => .cells (rwb 176 fun j => if j < 4 * (q + 4) + (k + 1) then kw key j else 0) 51 (0, 0))
                · exact fun _ _ => rfl
                · (first | rfl | (go_simp; done) | (simp [Region.wanted, yielded]; done))
                · exact fun γ' W hg hI hW => exec_stc rfl rfl rfl hil HST.out hW
                go_simp
                apply SeqF.done
                intro w9 hI9
                have hX9 := hX1.nextD hI9 (Gh.set_here _ _ _)
                clear hI9 hX1
                go_simp
                go_wp2_with fail
                go_roundw
                case rel =>
                  first
                    | exact ⟨k + 1, by omega, by go_num, hX9⟩
                    | ((repeat apply Exists.intro); refine ⟨?_, rfl⟩; exact ⟨k + 1, by omega, by go_num, hX9⟩)
                case measure => first | (simp [intOf]; done) | (simp [intOf]; omega)
              case hl => rfl
              case ho => kernel_rfl
            · obtain rfl : k = 4 := by omega
              have hX9 : XS w wr T N D key (4 * (q + 4 + 1)) := hX1.x
              go_wp2_with fail
              go_roundw
              case rel =>
                first
                  | exact ⟨q + 4 + 1, by omega, by go_num, by rw [HRN.out], hX9⟩
                  | ((repeat apply Exists.intro); refine ⟨?_, rfl⟩; exact ⟨q + 4 + 1, by omega, by go_num, by rw [HRN.out], hX9⟩)
              case measure => first | (simp [intOf]; done) | (simp [intOf]; omega)
    · obtain rfl : n = 44 := by omega
      have HD2 : Hid (wr.heap[D]? = some (.cells (rwb 176 (kw key)) 51 (0, 0))) := Lib.hid (by rw [hS.hD, rwb_congr (f := fun j => if j < 4 * 44 then kw key j else 0) (g := kw key) (fun j hj => if_pos hj)])
      obtain ⟨r, hr⟩ : ∃ r, rcT ((44 - 1) / 4) = r := ⟨_, rfl⟩
      rw [hr]
      clear hr
      obtain ⟨O, hO⟩ : ∃ O, wr.heap.size = O := ⟨_, rfl⟩
      obtain ⟨V, hV⟩ : ∃ V, wr.alloc (.cells (rwb 176 fun _ => 0) 31) = V := ⟨_, rfl⟩
      have hXO : XO w V N D O key 0 := by
        have l1 := lt_of_heap hS.hR
        have l2 := lt_of_heap hS.hD
        rw [← hV, ← hO]
        refine ⟨?_, ?_, ?_, hS.hL.alloc (by omega) _, by have := hS.lt; omega⟩
        · rw [heap_alloc_if, if_neg (by omega)]; exact hS.hR
        · rw [heap_alloc_if, if_neg (by omega)]; exact HD2.out
        · rw [heap_alloc_last, rwb_congr (f := fun j => if j < 4 * 0 then kw key j else 0) (g := fun _ => 0) (fun j _ => if_neg (by omega))]
      clear HD2 hS
      go_wp2_with fail
      (try rw [hV])
      (try rw [hO])
      clear hV hO hz1
      go_loopw [11] (fun i wr => ∃ m : Nat, m ≤ 44 ∧ i = .int .i64 m ∧ XO w wr N D O key m) (fun i _ => 44 - (intOf i).toNat)
      case atStart => exact ⟨0, by omega, rfl, hXO⟩
      case round =>
        clear hXO
        obtain ⟨m, hm, rfl, hX⟩ := hrel
        by_cases hml : m < 44
        · obtain ⟨a, ha⟩ : ∃ a, m / 4 = a := ⟨_, rfl⟩
          obtain ⟨b, hb⟩ : ∃ b, m % 4 = b := ⟨_, rfl⟩
          have hmi : (m : Int) < 44 := by omega
          have hm0 : (0 : Int) ≤ (m : Int) := by omega
          have hq : (m : Int) / 4 = (a : Int) := by omega
          have hrm : (m : Int) % 4 = (b : Int) := by omega
          have hrt : Int.tmod (m : Int) 4 = (b : Int) := by rw [Int.tmod_eq_emod_of_nonneg (by omega)]; omega
          have hqt : Int.tdiv (m : Int) 4 = (a : Int) := by rw [Int.tdiv_eq_ediv_of_nonneg (by omega)]; omega
          have hwa : IntKind.i64.wrap (a : Int) = (a : Int) := IntWalk.i64_in _ (by omega)
          have hwb : IntKind.i64.wrap (b : Int) = (b : Int) := IntWalk.i64_in _ (by omega)
          have hw4 : IntKind.i64.wrap (4 * (b : Int)) = 4 * (b : Int) := IntWalk.i64_in _ (by omega)
          have ht4 : (4 * (b : Int)).toNat = 4 * b := by omega
          have hl0 : (0 : Int) ≤ 4 * (b : Int) := by omega
          have hl2 : 4 * (b : Int) ≤ 16 := by omega
          have hne : ¬ (16 : Nat) = 4 * b := by omega
          have hai : (a : Int) < 11 := by omega
          have ha0 : (0 : Int) ≤ (a : Int) := by omega
          have HAB : Hid (m = 4 * a + b ∧ b < 4) := Lib.hid (by omega)
          clear ha hb
          go_wp2_with fail
          apply wp_region_eff _ _ hX.inv (hm := by kernel_rfl)
          case h =>
            (apply SeqF.pure; (focus (first | rfl | (go_simp; done) | (simp [Region.wanted, yielded]; done))); (focus (intro w; go_simp; with_reducible rfl)); go_simp)
            (apply SeqF.pure; (focus (first | rfl | (go_simp; done) | (simp [Region.wanted, yielded]; done))); (focus (intro w; go_simp; with_reducible rfl)); go_simp)
            (apply SeqF.pure; (focus (first | rfl | (go_simp; done) | (simp [Region.wanted, yielded]; done))); (focus (intro w; go_simp; with_reducible rfl)); go_simp)
            (apply SeqF.pure; (focus (first | rfl | (go_simp; done) | (simp [Region.wanted, yielded]; done))); (focus (intro w; go_simp; with_reducible rfl)); go_simp)
            (apply SeqF.pure; (focus (first | rfl | (go_simp; done) | (simp [Region.wanted, yielded]; done))); (focus (intro w; go_simp; with_reducible rfl)); go_simp)
            (apply SeqF.pure; (focus (first | rfl | (go_simp; done) | (simp [Region.wanted, yielded]; done))); (focus (intro w; go_simp; with_reducible rfl)); go_simp)
            (apply SeqF.pure; (focus (first | rfl | (go_simp; done) | (simp [Region.wanted, yielded]; done))); (focus (intro w; go_simp; with_reducible rfl)); go_simp)
            (apply SeqF.pure; (focus (first | rfl | (go_simp; done) | (simp [Region.wanted, yielded]; done))); (focus (intro w; go_simp; with_reducible rfl)); go_simp)
            (apply SeqF.pure; (focus (first | rfl | (go_simp; done) | (simp [Region.wanted, yielded]; done))); (focus (intro w; go_simp; with_reducible rfl)); go_simp)
            (apply SeqF.pure; (focus (first | rfl | (go_simp; done) | (simp [Region.wanted, yielded]; done))); (focus (intro w; go_simp; with_reducible rfl)); go_simp)
            apply SeqF.copyR [0] 0 O 4 (.cells (rwb 176 fun j => if j < 4 * m then kw key j else 0) 31 (0, 0)) rfl (by simp) (.cells (rwb 176 fun j => if j < 4 * (m + 1) then kw key j else 0) 31 (0, 0))
            · (first | rfl | (go_simp; done) | (simp [Region.wanted, yielded]; done))
            · exact fun γ' W hg hI hW => ⟨_, exec_copy rfl rfl rfl (run_copy_ovr (G := fun j => kw key (4 * m + j)) hW ((hI.far D (lt_of_heap hX.hD) (by have := hX.lt; omega)).trans hX.hD) (by have := HAB.out; omega) (by have := HAB.out; omega) (by omega) (fun j _ => by rw [Nat.mul_comm m 4])), by rw [rwb_congr (fun j _ => ovr_at (kw key) (4 * m) 4 (4 * (m + 1)) _ _ (by have := HAB.out; omega) (by omega) (fun c hc => rfl) j)]; exact only_setRow hW⟩
            go_simp
            apply SeqF.done
            intro w9 hI9
            have hX9 := hX.next hI9 (Gh.set_here _ _ _)
            clear hI9 hX
            go_simp
            go_wp2_with fail
            go_roundw
            case rel =>
              first
                | exact ⟨m + 1, by omega, by go_num, hX9⟩
                | ((repeat apply Exists.intro); refine ⟨?_, rfl⟩; exact ⟨m + 1, by omega, by go_num, hX9⟩)
            case measure => first | (simp [intOf]; done) | (simp [intOf]; omega)
          case hl => rfl
          case ho => kernel_rfl
        · obtain rfl : m = 44 := by omega
          have HO2 : Hid (wr.heap[O]? = some (.cells (rwb 176 (kw key)) 31 (0, 0))) := Lib.hid (by rw [hX.hO, rwb_congr (f := fun j => if j < 4 * 44 then kw key j else 0) (g := kw key) (fun j hj => if_pos hj)])
          go_wp2_with (first | (with_reducible refine wpList_ld rowKeys rfl (.tmp 10) rfl rfl HO2.out (by omega) (G := kw key) (fun j _ => by rw [Nat.zero_add]) ?_) | (with_reducible refine wpList_st rowKeys rfl (.tmp 4) (.tmp 97) rfl rfl rfl hX.hR ?_))
          refine bodyPost_ret (v := .agg (rwb 176 (kw key))) ?_ rfl ?_
          · exact results_cell (fn := Try.f26) Try.results26 rfl (run_loadVar_rwb rowKeys (setRow_heap _ _ _ _ _ _ hX.hR) (by omega) (fun j _ => by rw [Nat.zero_add]))
          · exact ⟨rfl, by have l := hX.lt; rw [show w.heap.size = N from l.2.1]; exact below_setRow hX.hL (by omega) _⟩
end Go.Proofs.Ytppponobefljgaa
