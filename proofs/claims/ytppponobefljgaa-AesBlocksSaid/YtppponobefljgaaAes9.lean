/- What is proved: what a cipher's Decrypt of package aes answers when it is called; conditions: the cipher's block holds what it is said to. -/
import Derived.Test.YtppponobefljgaaAes8
set_option linter.unusedSimpArgs false
set_option linter.unusedVariables false
namespace Go.Proofs.Ytppponobefljgaa
open Go.RowKit
set_option maxRecDepth 100000
set_option maxHeartbeats 8000000
def unB (x : Int) : Int := unsI x.toNat
def tmI (x : Int) (n : Nat) : Int := (mul x.toNat n : Nat)
/-- The rows turned back, the bytes substituted back. -/
def shU (b : Nat → Int) (j : Nat) : Int := unB (b (4 * ((j / 4 + 4 - j % 4) % 4) + j % 4))
/-- The columns mixed back. -/
def mixU (s : Nat → Int) (j : Nat) : Int := xr (xr (xr (tmI (s (4 * (j / 4) + j % 4)) 14) (tmI (s (4 * (j / 4) + (j % 4 + 1) % 4)) 11)) (tmI (s (4 * (j / 4) + (j % 4 + 2) % 4)) 13)) (tmI (s (4 * (j / 4) + (j % 4 + 3) % 4)) 9)
def dtF (F b : Nat → Int) : Nat → Nat → Int
  | 0 => b
  | n + 1 => shU (if 10 - n < 10 then mixU (addF (dtF F b n) F (10 - n)) else addF (dtF F b n) F (10 - n))
def dmF (F b : Nat → Int) : Nat → Int := addF (dtF F b 10) F 0
theorem uns_cell {w : World} {C : Nat} {F : Nat → Int} (hC : w.heap[C]? = some (.cells (rwb 688 (cphF F)) 43 (0, 0))) {x : Nat} (hx : x < 256) : w.cell? ⟨C, 432 + x, none⟩ = some (.int .u8 (unsI x)) := by
  rw [cell_rwb hC (by omega)]
  show some (Value.int .u8 (if 432 + x < 176 then F (432 + x) else if 432 + x < 432 then subI (432 + x - 176) else unsI (432 + x - 432))) = _
  rw [if_neg (by omega), if_neg (by omega), Nat.add_sub_cancel_left]
structure D0 (w wr : World) (B C : Nat) (F g : Nat → Int) : Prop where
  hB : wr.heap[B]? = some (.cells (rwb 16 g) 28 (0, 0))
  hR : wr.heap[B + 1]? = some (.cells (rwb 16 fun _ => 0) 28 (0, 0))
  hC : wr.heap[C]? = some (.cells (rwb 688 (cphF F)) 43 (0, 0))
  hL : Below B w wr
  lt : C < B ∧ w.heap.size = B
/-- The same with one more block. -/
structure DS (w wr : World) (B C S : Nat) (F g : Nat → Int) (o : Obj) : Prop where
  d : D0 w wr B C F g
  hS : wr.heap[S]? = some o
  lt : B + 1 < S
theorem D0.congr {w wr : World} {B C : Nat} {F g g' : Nat → Int} (h : D0 w wr B C F g) (hs : ∀ j, j < 16 → g j = g' j) : D0 w wr B C F g' :=
  ⟨by rw [h.hB, rwb_congr hs], h.hR, h.hC, h.hL, h.lt⟩
theorem D0.drew {w wr : World} {B C : Nat} {F g : Nat → Int} (h : D0 w wr B C F g) : D0 w wr.drew B C F g := ⟨h.hB, h.hR, h.hC, bl_drew h.hL, h.lt⟩
theorem D0.alloc {w wr : World} {B C : Nat} {F g : Nat → Int} (h : D0 w wr B C F g) (c : Obj) : DS w (wr.alloc c) B C wr.heap.size F g c := by
  have h1 := lt_of_heap h.hB
  have h2 := lt_of_heap h.hR
  have h3 := lt_of_heap h.hC
  refine ⟨⟨?_, ?_, ?_, h.hL.alloc (by omega) _, h.lt⟩, heap_alloc_last _ _, h2⟩
  · rw [heap_alloc_if, if_neg (by omega)]; exact h.hB
  · rw [heap_alloc_if, if_neg (by omega)]; exact h.hR
  · rw [heap_alloc_if, if_neg (by omega)]; exact h.hC
theorem D0.inv {w wr : World} {B C : Nat} {F g : Nat → Int} (h : D0 w wr B C F g) : Inv wr (fun q => q = B) (gh2 (some (B, .cells (rwb 16 g) 28 (0, 0))) none) wr.drew :=
  Inv.start2 h.hB rfl (by rintro g o h; cases h)
theorem D0.invR {w wr : World} {B C : Nat} {F g : Nat → Int} (h : D0 w wr B C F g) : Inv wr (fun q => q = B + 1) (gh2 (some (B + 1, .cells (rwb 16 fun _ => 0) 28 (0, 0))) none) wr.drew :=
  Inv.start2 h.hR rfl (by rintro g o h; cases h)
theorem D0.next {w wr w1 : World} {B C : Nat} {F g g' : Nat → Int} {γ : Gh} (h : D0 w wr B C F g) (hI : Inv wr (fun q => q = B) γ w1) (hγ : γ 0 = some (B, .cells (rwb 16 g') 28 (0, 0))) : D0 w w1 B C F g' :=
  ⟨(hI.here 0 B _ hγ).1, (hI.far (B + 1) (lt_of_heap h.hR) (by omega)).trans h.hR, (hI.far C (lt_of_heap h.hC) (by have := h.lt; omega)).trans h.hC, hI.belowS h.hL (by have := lt_of_heap h.hB; omega) (by rintro q rfl; omega), h.lt⟩
theorem DS.inv {w wr : World} {B C S : Nat} {F g : Nat → Int} {o : Obj} (h : DS w wr B C S F g o) : Inv wr (fun q => q = S) (gh2 (some (S, o)) none) wr.drew :=
  Inv.start2 h.hS rfl (by rintro g o h; cases h)
theorem DS.next {w wr w1 : World} {B C S : Nat} {F g : Nat → Int} {o o' : Obj} {γ : Gh} (h : DS w wr B C S F g o) (hI : Inv wr (fun q => q = S) γ w1) (hγ : γ 0 = some (S, o')) : DS w w1 B C S F g o' :=
  ⟨⟨(hI.far B (lt_of_heap h.d.hB) (by have := h.lt; omega)).trans h.d.hB, (hI.far (B + 1) (lt_of_heap h.d.hR) (by have := h.lt; omega)).trans h.d.hR, (hI.far C (lt_of_heap h.d.hC) (by have := h.lt; have := h.d.lt; omega)).trans h.d.hC, hI.belowS h.d.hL (by have := lt_of_heap h.d.hB; omega) (by rintro q rfl; have := h.lt; omega), h.d.lt⟩, (hI.here 0 S _ hγ).1, h.lt⟩
theorem DS.cellB {w wr W : World} {B C S : Nat} {F g : Nat → Int} {o : Obj} {γ : Gh} (h : DS w wr B C S F g o) (hI : Inv wr (fun q => q = S) γ W) {j : Nat} (hj : j < 16) : W.cell? ⟨B, j, none⟩ = some (.int .u8 (g j)) :=
  cell_rwb ((hI.far B (lt_of_heap h.d.hB) (by have := h.lt; omega)).trans h.d.hB) hj
theorem DS.cellC {w wr W : World} {B C S : Nat} {F g : Nat → Int} {o : Obj} {γ : Gh} (h : DS w wr B C S F g o) (hI : Inv wr (fun q => q = S) γ W) {x : Nat} (hx : x < 256) : W.cell? ⟨C, 432 + x, none⟩ = some (.int .u8 (unsI x)) :=
  uns_cell ((hI.far C (lt_of_heap h.d.hC) (by have := h.lt; have := h.d.lt; omega)).trans h.d.hC) hx
/-- Bytes turned back, so many rows and columns of them. -/
def shV (b : Nat → Int) (ρ c : Nat) (j : Nat) : Int := if j % 4 < ρ ∨ (j % 4 = ρ ∧ (j / 4 + 4 - j % 4) % 4 < c) then shU b j else 0
theorem shV_step {b : Nat → Int} {ρ c : Nat} (hρ : ρ < 4) (hc : c < 4) {p1 p2 : Nat} (h1 : 4 * ((c + ρ) % 4) + ρ = p1) (h2 : 4 * (c % 4) + ρ = p2) {y : Nat} (hy : b p2 = (y : Int)) (j : Nat) (hj : j < 16) : upd (shV b ρ c) p1 (unsI y) j = shV b ρ (c + 1) j := by
  unfold upd shV
  by_cases e : j = p1
  · have hx : ∀ c, c < 4 → ∀ ρ, ρ < 4 → ((c + ρ) % 4 + 4 - ρ) % 4 = c := by decide
    have hx := hx c hc ρ hρ
    rw [if_pos e, show j % 4 = ρ by omega, show j / 4 = (c + ρ) % 4 by omega, hx, if_pos (.inr ⟨rfl, by omega⟩)]
    unfold shU unB
    rw [show j % 4 = ρ by omega, show j / 4 = (c + ρ) % 4 by omega, hx, show 4 * c + ρ = p2 by omega, hy]
    rfl
  · rw [if_neg e]
    by_cases h : j % 4 < ρ ∨ (j % 4 = ρ ∧ (j / 4 + 4 - j % 4) % 4 < c)
    · rw [if_pos h, if_pos (by omega)]
    · have hx : ∀ y, y < 4 → ∀ c, c < 4 → ∀ ρ, ρ < 4 → (y + 4 - ρ) % 4 = c → y = (c + ρ) % 4 := by decide
      have hn : ¬ (j % 4 = ρ ∧ (j / 4 + 4 - j % 4) % 4 = c) := by
        rintro ⟨e1, e2⟩
        rw [e1] at e2
        have := hx (j / 4) (by omega) c hc ρ hρ e2
        omega
      rw [if_neg h, if_neg (by omega)]
theorem shV_row {b : Nat → Int} {ρ : Nat} (j : Nat) (hj : j < 16) : shV b ρ 4 j = shV b (ρ + 1) 0 j := by
  unfold shV
  by_cases h : j % 4 < ρ ∨ (j % 4 = ρ ∧ (j / 4 + 4 - j % 4) % 4 < 4)
  · rw [if_pos h, if_pos (by omega)]
  · rw [if_neg h, if_neg (by omega)]
theorem shV_all {b : Nat → Int} (j : Nat) (hj : j < 16) : shV b 4 0 j = shU b j := by
  unfold shV
  rw [if_pos (by omega)]
def mixV (s : Nat → Int) (m : Nat) (j : Nat) : Int := if j < m then mixU s j else s j
def mixD (s : Nat → Int) (m k : Nat) (j : Nat) : Int := if j < k then mixU s (m + j) else 0
theorem mixV_copy {s : Nat → Int} {m : Nat} (j : Nat) : ovr (mixV s m) m 4 (mixD s m 4) j = mixV s (m + 4) j := by
  unfold ovr mixV mixD
  by_cases h : m ≤ j ∧ j < m + 4
  · rw [if_pos h, if_pos (by omega), if_pos (by omega), show m + (j - m) = j by omega]
  · rw [if_neg h]
    by_cases h2 : j < m
    · rw [if_pos h2, if_pos (by omega)]
    · rw [if_neg h2, if_neg (by omega)]
theorem mixD_step {s : Nat → Int} {m k : Nat} {z : Int} (hz : z = mixU s (m + k)) (j : Nat) : upd (mixD s m k) k z j = mixD s m (k + 1) j := by
  unfold upd mixD
  by_cases e : j = k
  · rw [if_pos e, if_pos (by omega), e, hz]
  · rw [if_neg e]
    by_cases h : j < k
    · rw [if_pos h, if_pos (by omega)]
    · rw [if_neg h, if_neg (by omega)]
theorem mixU_at {s : Nat → Int} {m k : Nat} (hm : m % 4 = 0) (hk : k < 4) {k1 k2 k3 y0 y1 y2 y3 q0 q1 q2 q3 : Nat} (h1 : (k + 1) % 4 = k1) (h2 : (k + 2) % 4 = k2) (h3 : (k + 3) % 4 = k3) (e0 : s (m + k) = (y0 : Int)) (e1 : s (m + k1) = (y1 : Int)) (e2 : s (m + k2) = (y2 : Int)) (e3 : s (m + k3) = (y3 : Int))
    (g0 : mul y0 14 = q0) (g1 : mul y1 11 = q1) (g2 : mul y2 13 = q2) (g3 : mul y3 9 = q3) : bits .xor .u8 (bits .xor .u8 (bits .xor .u8 (q0 : Int) (q1 : Int)) (q2 : Int)) (q3 : Int) = mixU s (m + k) := by
  unfold mixU
  rw [show 4 * ((m + k) / 4) = m by omega, show (m + k) % 4 = k by omega, h1, h2, h3, e0, e1, e2, e3]
  unfold tmI
  rw [Int.toNat_natCast, Int.toNat_natCast, Int.toNat_natCast, Int.toNat_natCast, g0, g1, g2, g3]
  rfl
theorem zeros4 : (#[.int .u8 0, .int .u8 0, .int .u8 0, .int .u8 0] : Array Value) = rwb 4 (fun _ => 0) := rfl
theorem DS.congrS {w wr : World} {B C S : Nat} {F g s s' : Nat → Int} {t : TypeId} (h : DS w wr B C S F g (.cells (rwb 16 s) t (0, 0))) (hs : ∀ j, j < 16 → s j = s' j) : DS w wr B C S F g (.cells (rwb 16 s') t (0, 0)) :=
  ⟨h.d, by rw [h.hS, rwb_congr hs], h.lt⟩
theorem DS.setB {w wr : World} {B C S : Nat} {F g : Nat → Int} {o : Obj} (h : DS w wr B C S F g o) (G : Nat → Int) : D0 w (wr.setRow B (rwb 16 G)) B C F G := by
  refine ⟨setRow_heap _ _ _ _ _ _ h.d.hB, ?_, ?_, below_setRow h.d.hL (by omega) _, h.d.lt⟩
  · rw [heap_setRow_if, if_neg (by omega)]; exact h.d.hR
  · rw [heap_setRow_if, if_neg (by have := h.d.lt; omega)]; exact h.d.hC
theorem decm_any (C : Nat) (F b : Nat → Int) (w : World) (hbb : ∀ j, j < 16 → 0 ≤ b j ∧ b j ≤ 255) (hC : w.heap[C]? = some (.cells (rwb 688 (cphF F)) 43 (0, 0))) : Calls Try.prog 25 #[.pointer (some ⟨C, 0, none⟩), .agg (rwb 16 b)] w fun e w' => e = .returned (.agg (rwb 16 (dmF F b))) ∧ Below w.heap.size w w' := by
  have HC := Lib.hid hC
  have hCl := lt_of_heap hC
  clear hC
  go_enter Try.func25, Try.ntmps25
  go_wp2_with fail
  rw [zeros16]
  obtain ⟨B, hB⟩ : ∃ B, w.heap.size = B := ⟨_, rfl⟩
  obtain ⟨W0, hW0⟩ : ∃ W0, (w.alloc (.cells (rwb 16 b) 28)).alloc (.cells (rwb 16 fun _ => 0) 28) = W0 := ⟨_, rfl⟩
  have hD0 : D0 w W0 B C F (dtF F b (10 - 10)) := by
    refine ⟨?_, ?_, ?_, ?_, by omega, hB⟩
    · show W0.heap[B]? = some (.cells (rwb 16 b) 28 (0, 0))
      rw [← hW0, ← hB]; (simp only [heap_setRow_if, heap_alloc_if, heap_setCell_if, World.size_alloc, size_setRow, World.size_setCell]; simp) <;> (intros; omega)
    · rw [← hW0, ← hB]; (simp only [heap_setRow_if, heap_alloc_if, heap_setCell_if, World.size_alloc, size_setRow, World.size_setCell]; simp) <;> (intros; omega)
    · rw [← hW0, heap_alloc_if, if_neg (by simp; omega), heap_alloc_if, if_neg (by omega)]; exact HC.out
    · rw [← hW0, ← hB]; (repeat' (first | (with_reducible exact Below.refl _ _) | (with_reducible assumption) | (with_reducible refine Below.alloc ?_ ?_ _) | (with_reducible refine below_setRow ?_ ?_ _) | (with_reducible refine bl_drew ?_) | (with_reducible refine bl_drewN ?_ _) | (with_reducible refine Below.setCell ?_ ?_ _) | (with_reducible refine bl_then ?_ ?_ hb) | (with_reducible refine bl_then ?_ ?_ hb1) | (with_reducible refine bl_then ?_ ?_ hb2) | (with_reducible refine bl_then ?_ ?_ hb3) | (with_reducible refine bl_then ?_ ?_ hb4) | (with_reducible refine bl_then ?_ ?_ hb5) | (with_reducible refine bl_then ?_ ?_ hb6) | (with_reducible refine bl_then ?_ ?_ hb7) | (with_reducible refine bl_then ?_ ?_ hb8) | (with_reducible exact Nat.le_refl _) | omega | (simp only [World.size_alloc, World.size_setCell, World.size_drew, size_setRow]; omega) | (simp; omega) | (simp; done)))
  rw [hW0, hB]
  clear hW0 HC
  go_loopw [5] (fun i wr => ∃ R : Nat, R ≤ 10 ∧ i = .int .i64 R ∧ D0 w wr B C F (dtF F b (10 - R))) (fun i _ => (intOf i).toNat)
  case atStart => exact ⟨10, by omega, rfl, hD0⟩
  case round =>
    clear hD0
    obtain ⟨R, hR, rfl, hD⟩ := hrel
    obtain ⟨s, hs⟩ : ∃ s, dtF F b (10 - R) = s := ⟨_, rfl⟩
    rw [hs] at hD
    have HS := Lib.hid hs
    clear hs
    by_cases hR1 : 1 ≤ R
    · have hRi : (1 : Int) ≤ (R : Int) := by omega
      have hR0 : (0 : Int) ≤ (R : Int) := by omega
      have hRl : (R : Int) < 11 := by omega
      obtain ⟨h, hh⟩ : ∃ h, addF s F R = h := ⟨_, rfl⟩
      have HHB : Hid (∀ j, 0 ≤ h j ∧ h j ≤ 255) := Lib.hid (fun j => by rw [← hh]; exact xr_b _ _)
      have HH := Lib.hid hh
      clear hh
      go_wp2_with fail
      apply wp_region_eff _ _ hD.inv (hm := by kernel_rfl)
      case h =>
        apply SeqF.read (v := .agg (rwb 16 s)) [0]
        · (first | rfl | (go_simp; done) | (simp [Region.wanted, yielded]; done))
        · exact fun γ' W hg hI => exec_load rfl rfl (run_load_rwb rowBlock (hI.here 0 _ _ ((hg 0 (by simp)).trans rfl)).1 (by omega) (fun j _ => by rw [Nat.zero_add]))
        go_simp
        (apply SeqF.pure; (focus (first | rfl | (go_simp; done) | (simp [Region.wanted, yielded]; done))); (focus (intro w; go_simp; with_reducible rfl)); go_simp)
        (apply SeqF.pure; (focus (first | rfl | (go_simp; done) | (simp [Region.wanted, yielded]; done))); (focus (intro w; go_simp; with_reducible rfl)); go_simp)
        (apply SeqF.pure; (focus (first | rfl | (go_simp; done) | (simp [Region.wanted, yielded]; done))); (focus (intro w; go_simp; with_reducible rfl)); go_simp)
        (apply SeqF.pure; (focus (first | rfl | (go_simp; done) | (simp [Region.wanted, yielded]; done))); (focus (intro w; go_simp; with_reducible rfl)); go_simp)
        (apply SeqF.pure; (focus (first | rfl | (go_simp; done) | (simp [Region.wanted, yielded]; done))); (focus (intro w; go_simp; with_reducible rfl)); go_simp)
        apply SeqF.read (v := .agg (rwb 16 fun j => F (16 * R + j))) []
        · (first | rfl | (go_simp; done) | (simp [Region.wanted, yielded]; done))
        · exact fun γ' W hg hI => exec_load rfl rfl (key_row (r := R) ((hI.far C (lt_of_heap hD.hC) (by have := hD.lt; omega)).trans hD.hC) (by omega))
        go_simp
        apply SeqF.call (v := .agg (rwb 16 h)) [] 31 #[.agg (rwb 16 s), .agg (rwb 16 fun j => F (16 * R + j))]
        · (first | rfl | (go_simp; done) | (simp [Region.wanted, yielded]; done))
        · intro w; kernel_rfl
        · exact fun γ' W hg hI => (against_any _ _ W).mono (by rintro e W' ⟨rfl, hb⟩; exact ⟨by rw [← HH.out]; rfl, hI.below hb⟩)
        go_simp
        apply SeqF.store [0] 0 B (.cells (rwb 16 s) 28 (0, 0)) rfl (by simp) (fun _ => .cells (rwb 16 h) 28 (0, 0))
        · exact fun _ _ => rfl
        · (first | rfl | (go_simp; done) | (simp [Region.wanted, yielded]; done))
        · exact fun γ' W hg hI hW => ⟨_, exec_store rfl rfl rfl (run_store_rwb rowBlock hW), only_setRow hW⟩
        go_simp
        apply SeqF.done
        intro w1 hI1
        have hD1 := hD.next hI1 (Gh.set_here _ _ _)
        clear hI1 hD
        go_simp
        by_cases hr10 : R < 10
        · have hr10i : (R : Int) < 10 := by omega
          have hD2 := hD1.congr (g' := mixV h 0) (fun j _ => (if_neg (by omega)).symm)
          clear hD1
          go_wp2_with fail
          go_loopw [6] (fun i wr => ∃ m : Nat, m ≤ 16 ∧ Hid (m % 4 = 0) ∧ i = .int .i64 m ∧ D0 w wr B C F (mixV h m)) (fun i _ => 16 - (intOf i).toNat)
          case atStart => exact ⟨0, by omega, Lib.hid (by omega), rfl, hD2⟩
          case round =>
            clear hD2
            obtain ⟨m, hm, HM4, rfl, hD3⟩ := hrel
            by_cases hm16 : m < 16
            · have hmi : (m : Int) < 16 := by omega
              have hm0 : (0 : Int) ≤ (m : Int) := by omega
              have hm12 : m + 4 ≤ 16 := by have := HM4.out; omega
              go_wp2_with fail
              rw [zeros4]
              obtain ⟨D, hDs⟩ : ∃ D, wr.heap.size = D := ⟨_, rfl⟩
              have hA := hD3.alloc (.cells (rwb 4 fun _ => 0) 50)
              obtain ⟨V, hV⟩ : ∃ V, wr.alloc (.cells (rwb 4 fun _ => 0) 50) = V := ⟨_, rfl⟩
              rw [hV, hDs] at hA
              have hE : DS w V B C D F (mixV h m) (.cells (rwb 4 (mixD h m 0)) 50 (0, 0)) := by
                rw [rwb_congr (f := mixD h m 0) (g := fun _ => 0) (fun j _ => if_neg (by omega))]
                exact hA
              rw [hV, hDs]
              clear hV hDs hA hD3
              go_loopw [30] (fun i wr => ∃ k : Nat, k ≤ 4 ∧ i = .int .i64 k ∧ DS w wr B C D F (mixV h m) (.cells (rwb 4 (mixD h m k)) 50 (0, 0))) (fun i _ => 4 - (intOf i).toNat)
              case atStart => exact ⟨0, by omega, rfl, hE⟩
              case round =>
                clear hE
                obtain ⟨k, hk, rfl, hE⟩ := hrel
                by_cases hk4 : k < 4
                · have hki : (k : Int) < 4 := by omega
                  have hk0 : (0 : Int) ≤ (k : Int) := by omega
                  obtain ⟨k1, hk1⟩ : ∃ t, (k + 1) % 4 = t := ⟨_, rfl⟩
                  obtain ⟨k2, hk2⟩ : ∃ t, (k + 2) % 4 = t := ⟨_, rfl⟩
                  obtain ⟨k3, hk3⟩ : ∃ t, (k + 3) % 4 = t := ⟨_, rfl⟩
                  obtain ⟨y0, hy0⟩ := Int.eq_ofNat_of_zero_le (HHB.out (m + k)).1
                  obtain ⟨y1, hy1⟩ := Int.eq_ofNat_of_zero_le (HHB.out (m + k1)).1
                  obtain ⟨y2, hy2⟩ := Int.eq_ofNat_of_zero_le (HHB.out (m + k2)).1
                  obtain ⟨y3, hy3⟩ := Int.eq_ofNat_of_zero_le (HHB.out (m + k3)).1
                  have hl0 : y0 < 256 := by have := HHB.out (m + k); omega
                  have hl1 : y1 < 256 := by have := HHB.out (m + k1); omega
                  have hl2 : y2 < 256 := by have := HHB.out (m + k2); omega
                  have hl3 : y3 < 256 := by have := HHB.out (m + k3); omega
                  obtain ⟨q0, hq0⟩ : ∃ q, mul y0 14 = q := ⟨_, rfl⟩
                  obtain ⟨q1, hq1⟩ : ∃ q, mul y1 11 = q := ⟨_, rfl⟩
                  obtain ⟨q2, hq2⟩ : ∃ q, mul y2 13 = q := ⟨_, rfl⟩
                  obtain ⟨q3, hq3⟩ : ∃ q, mul y3 9 = q := ⟨_, rfl⟩
                  have HZ := Lib.hid (mixU_at HM4.out hk4 hk1 hk2 hk3 hy0 hy1 hy2 hy3 hq0 hq1 hq2 hq3)
                  have HY0 := Lib.hid hy0
                  have HY1 := Lib.hid hy1
                  have HY2 := Lib.hid hy2
                  have HY3 := Lib.hid hy3
                  have HQ0 := Lib.hid hq0
                  have HQ1 := Lib.hid hq1
                  have HQ2 := Lib.hid hq2
                  have HQ3 := Lib.hid hq3
                  have hb0 : m + k < 16 := by omega
                  have hb1 : m + k1 < 16 := by omega
                  have hb2 : m + k2 < 16 := by omega
                  have hb3 : m + k3 < 16 := by omega
                  have hi0 : (m : Int) + (k : Int) < 16 := by omega
                  have hi1 : (m : Int) + (k1 : Int) < 16 := by omega
                  have hi2 : (m : Int) + (k2 : Int) < 16 := by omega
                  have hi3 : (m : Int) + (k3 : Int) < 16 := by omega
                  have hj0 : 0 ≤ (m : Int) + (k : Int) := by omega
                  have hj1 : 0 ≤ (m : Int) + (k1 : Int) := by omega
                  have hj2 : 0 ≤ (m : Int) + (k2 : Int) := by omega
                  have hj3 : 0 ≤ (m : Int) + (k3 : Int) := by omega
                  have hn0 : ((m : Int) + (k : Int)).toNat = m + k := by omega
                  have hn1 : ((m : Int) + (k1 : Int)).toNat = m + k1 := by omega
                  have hn2 : ((m : Int) + (k2 : Int)).toNat = m + k2 := by omega
                  have hn3 : ((m : Int) + (k3 : Int)).toNat = m + k3 := by omega
                  have hw0 : IntKind.i64.wrap ((m : Int) + (k : Int)) = (m : Int) + (k : Int) := IntWalk.i64_in _ (by omega)
                  have hw1 : IntKind.i64.wrap ((m : Int) + (k1 : Int)) = (m : Int) + (k1 : Int) := IntWalk.i64_in _ (by omega)
                  have hw2 : IntKind.i64.wrap ((m : Int) + (k2 : Int)) = (m : Int) + (k2 : Int) := IntWalk.i64_in _ (by omega)
                  have hw3 : IntKind.i64.wrap ((m : Int) + (k3 : Int)) = (m : Int) + (k3 : Int) := IntWalk.i64_in _ (by omega)
                  have hx1 : IntKind.i64.wrap ((k : Int) + 1) = (k : Int) + 1 := IntWalk.i64_in _ (by omega)
                  have hx2 : IntKind.i64.wrap ((k : Int) + 2) = (k : Int) + 2 := IntWalk.i64_in _ (by omega)
                  have hx3 : IntKind.i64.wrap ((k : Int) + 3) = (k : Int) + 3 := IntWalk.i64_in _ (by omega)
                  have ht1 : ((k : Int) + 1).tmod 4 = (k1 : Int) := by rw [Int.tmod_eq_emod_of_nonneg (by omega)]; omega
                  have ht2 : ((k : Int) + 2).tmod 4 = (k2 : Int) := by rw [Int.tmod_eq_emod_of_nonneg (by omega)]; omega
                  have ht3 : ((k : Int) + 3).tmod 4 = (k3 : Int) := by rw [Int.tmod_eq_emod_of_nonneg (by omega)]; omega
                  have HC0 : Hid (∀ i v, m ≤ i → i < 16 → h i = v → mixV h m i = v) := Lib.hid (fun i v h1 h2 h3 => by unfold mixV; rw [if_neg (by omega), h3])
                  clear hk1 hk2 hk3 hy0 hy1 hy2 hy3 hq0 hq1 hq2 hq3
                  go_wp2_with fail
                  apply wp_region_eff _ _ hE.inv (hm := by kernel_rfl)
                  case h =>
                    (apply SeqF.pure; (focus (first | rfl | (go_simp; done) | (simp [Region.wanted, yielded]; done))); (focus (intro w; go_simp; with_reducible rfl)); go_simp)
                    (apply SeqF.pure; (focus (first | rfl | (go_simp; done) | (simp [Region.wanted, yielded]; done))); (focus (intro w; go_simp; with_reducible rfl)); go_simp)
                    (apply SeqF.pure; (focus (first | rfl | (go_simp; done) | (simp [Region.wanted, yielded]; done))); (focus (intro w; go_simp; with_reducible rfl)); go_simp)
                    (apply SeqF.pure; (focus (first | rfl | (go_simp; done) | (simp [Region.wanted, yielded]; done))); (focus (intro w; go_simp; with_reducible rfl)); go_simp)
                    (apply SeqF.pure; (focus (first | rfl | (go_simp; done) | (simp [Region.wanted, yielded]; done))); (focus (intro w; go_simp; with_reducible rfl)); go_simp)
                    apply SeqF.read (v := .int .u8 (y0 : Nat)) []
                    · (first | rfl | (go_simp; done) | (simp [Region.wanted, yielded]; done))
                    · intro γ' W hg hI
                      have x0 := hE.cellB hI hb0
                      rw [HC0.out _ _ (by omega) hb0 HY0.out] at x0
                      go_simp
                    go_simp
                    apply SeqF.call (v := .int .u8 (q0 : Nat)) [] 7 #[.int .u8 (y0 : Nat), .int .u8 14]
                    · (first | rfl | (go_simp; done) | (simp [Region.wanted, yielded]; done))
                    · intro w; kernel_rfl
                    · exact fun γ' W hg hI => (times_any y0 14 W hl0 (by omega)).mono (by rintro e W' ⟨rfl, rfl⟩; exact ⟨by rw [HQ0.out], hI⟩)
                    go_simp
                    (apply SeqF.pure; (focus (first | rfl | (go_simp; done) | (simp [Region.wanted, yielded]; done))); (focus (intro w; go_simp; with_reducible rfl)); go_simp)
                    (apply SeqF.pure; (focus (first | rfl | (go_simp; done) | (simp [Region.wanted, yielded]; done))); (focus (intro w; go_simp; with_reducible rfl)); go_simp)
                    (apply SeqF.pure; (focus (first | rfl | (go_simp; done) | (simp [Region.wanted, yielded]; done))); (focus (intro w; go_simp; with_reducible rfl)); go_simp)
                    (apply SeqF.pure; (focus (first | rfl | (go_simp; done) | (simp [Region.wanted, yielded]; done))); (focus (intro w; go_simp; with_reducible rfl)); go_simp)
                    (apply SeqF.pure; (focus (first | rfl | (go_simp; done) | (simp [Region.wanted, yielded]; done))); (focus (intro w; go_simp; with_reducible rfl)); go_simp)
                    (apply SeqF.pure; (focus (first | rfl | (go_simp; done) | (simp [Region.wanted, yielded]; done))); (focus (intro w; go_simp; with_reducible rfl)); go_simp)
                    apply SeqF.read (v := .int .u8 (y1 : Nat)) []
                    · (first | rfl | (go_simp; done) | (simp [Region.wanted, yielded]; done))
                    · intro γ' W hg hI
                      have x0 := hE.cellB hI hb1
                      rw [HC0.out _ _ (by omega) hb1 HY1.out] at x0
                      go_simp
                    go_simp
                    apply SeqF.call (v := .int .u8 (q1 : Nat)) [] 7 #[.int .u8 (y1 : Nat), .int .u8 11]
                    · (first | rfl | (go_simp; done) | (simp [Region.wanted, yielded]; done))
                    · intro w; kernel_rfl
                    · exact fun γ' W hg hI => (times_any y1 11 W hl1 (by omega)).mono (by rintro e W' ⟨rfl, rfl⟩; exact ⟨by rw [HQ1.out], hI⟩)
                    go_simp
                    (apply SeqF.pure; (focus (first | rfl | (go_simp; done) | (simp [Region.wanted, yielded]; done))); (focus (intro w; go_simp; with_reducible rfl)); go_simp)
                    (apply SeqF.pure; (focus (first | rfl | (go_simp; done) | (simp [Region.wanted, yielded]; done))); (focus (intro w; go_simp; with_reducible rfl)); go_simp)
                    (apply SeqF.pure; (focus (first | rfl | (go_simp; done) | (simp [Region.wanted, yielded]; done))); (focus (intro w; go_simp; with_reducible rfl)); go_simp)
                    (apply SeqF.pure; (focus (first | rfl | (go_simp; done) | (simp [Region.wanted, yielded]; done))); (focus (intro w; go_simp; with_reducible rfl)); go_simp)
                    (apply SeqF.pure; (focus (first | rfl | (go_simp; done) | (simp [Region.wanted, yielded]; done))); (focus (intro w; go_simp; with_reducible rfl)); go_simp)
                    (apply SeqF.pure; (focus (first | rfl | (go_simp; done) | (simp [Region.wanted, yielded]; done))); (focus (intro w; go_simp; with_reducible rfl)); go_simp)
                    (apply SeqF.pure; (focus (first | rfl | (go_simp; done) | (simp [Region.wanted, yielded]; done))); (focus (intro w; go_simp; with_reducible rfl)); go_simp)
                    apply SeqF.read (v := .int .u8 (y2 : Nat)) []
                    · (first | rfl | (go_simp; done) | (simp [Region.wanted, yielded]; done))
                    · intro γ' W hg hI
                      have x0 := hE.cellB hI hb2
                      rw [HC0.out _ _ (by omega) hb2 HY2.out] at x0
                      go_simp
                    go_simp
                    apply SeqF.call (v := .int .u8 (q2 : Nat)) [] 7 #[.int .u8 (y2 : Nat), .int .u8 13]
                    · (first | rfl | (go_simp; done) | (simp [Region.wanted, yielded]; done))
                    · intro w; kernel_rfl
                    · exact fun γ' W hg hI => (times_any y2 13 W hl2 (by omega)).mono (by rintro e W' ⟨rfl, rfl⟩; exact ⟨by rw [HQ2.out], hI⟩)
                    go_simp
                    (apply SeqF.pure; (focus (first | rfl | (go_simp; done) | (simp [Region.wanted, yielded]; done))); (focus (intro w; go_simp; with_reducible rfl)); go_simp)
                    (apply SeqF.pure; (focus (first | rfl | (go_simp; done) | (simp [Region.wanted, yielded]; done))); (focus (intro w; go_simp; with_reducible rfl)); go_simp)
                    (apply SeqF.pure; (focus (first | rfl | (go_simp; done) | (simp [Region.wanted, yielded]; done))); (focus (intro w; go_simp; with_reducible rfl)); go_simp)
                    (apply SeqF.pure; (focus (first | rfl | (go_simp; done) | (simp [Region.wanted, yielded]; done))); (focus (intro w; go_simp; with_reducible rfl)); go_simp)
                    (apply SeqF.pure; (focus (first | rfl | (go_simp; done) | (simp [Region.wanted, yielded]; done))); (focus (intro w; go_simp; with_reducible rfl)); go_simp)
                    (apply SeqF.pure; (focus (first | rfl | (go_simp; done) | (simp [Region.wanted, yielded]; done))); (focus (intro w; go_simp; with_reducible rfl)); go_simp)
                    (apply SeqF.pure; (focus (first | rfl | (go_simp; done) | (simp [Region.wanted, yielded]; done))); (focus (intro w; go_simp; with_reducible rfl)); go_simp)
                    apply SeqF.read (v := .int .u8 (y3 : Nat)) []
                    · (first | rfl | (go_simp; done) | (simp [Region.wanted, yielded]; done))
                    · intro γ' W hg hI
                      have x0 := hE.cellB hI hb3
                      rw [HC0.out _ _ (by omega) hb3 HY3.out] at x0
                      go_simp
                    go_simp
                    apply SeqF.call (v := .int .u8 (q3 : Nat)) [] 7 #[.int .u8 (y3 : Nat), .int .u8 9]
                    · (first | rfl | (go_simp; done) | (simp [Region.wanted, yielded]; done))
                    · intro w; kernel_rfl
                    · exact fun γ' W hg hI => (times_any y3 9 W hl3 (by omega)).mono (by rintro e W' ⟨rfl, rfl⟩; exact ⟨by rw [HQ3.out], hI⟩)
                    go_simp
                    (apply SeqF.pure; (focus (first | rfl | (go_simp; done) | (simp [Region.wanted, yielded]; done))); (focus (intro w; go_simp; with_reducible rfl)); go_simp)
                    (apply SeqF.pure; (focus (first | rfl | (go_simp; done) | (simp [Region.wanted, yielded]; done))); (focus (intro w; go_simp; with_reducible rfl)); go_simp)
                    apply SeqF.store [0] 0 D (.cells (rwb 4 (mixD h m k)) 50 (0, 0)) rfl (by simp) (fun _ => .cells (rwb 4 (mixD h m (k + 1))) 50 (0, 0))
                    · exact fun _ _ => rfl
                    · (first | rfl | (go_simp; done) | (simp [Region.wanted, yielded]; done))
                    · exact fun γ' W hg hI hW => exec_stc rfl rfl rfl hk4 (fun j _ => mixD_step HZ.out j) hW
                    go_simp
                    apply SeqF.done
                    intro w9 hI9
                    have hE9 := hE.next hI9 (Gh.set_here _ _ _)
                    clear hI9 hE
                    go_simp
                    go_wp2_with fail
                    go_roundw
                    case rel =>
                      first
                        | exact ⟨k + 1, by omega, by go_num, hE9⟩
                        | ((repeat apply Exists.intro); refine ⟨?_, rfl⟩; exact ⟨k + 1, by omega, by go_num, hE9⟩)
                    case measure => first | (simp [intOf]; done) | (simp [intOf]; omega)
                  case hl => rfl
                  case ho => kernel_rfl
                · obtain rfl : k = 4 := by omega
                  have hmle : (m : Int) ≤ 16 := by omega
                  have hmne : ¬ (16 : Nat) = m := by omega
                  go_wp2_with fail
                  apply wp_region_eff _ _ hE.d.inv (hm := by kernel_rfl)
                  case h =>
                    (apply SeqF.pure; (focus (first | rfl | (go_simp; done) | (simp [Region.wanted, yielded]; done))); (focus (intro w; go_simp; with_reducible rfl)); go_simp)
                    (apply SeqF.pure; (focus (first | rfl | (go_simp; done) | (simp [Region.wanted, yielded]; done))); (focus (intro w; go_simp; with_reducible rfl)); go_simp)
                    (apply SeqF.pure; (focus (first | rfl | (go_simp; done) | (simp [Region.wanted, yielded]; done))); (focus (intro w; go_simp; with_reducible rfl)); go_simp)
                    apply SeqF.copyR [0] 0 B 4 (.cells (rwb 16 (mixV h m)) 28 (0, 0)) rfl (by simp) (.cells (rwb 16 (mixV h (m + 4))) 28 (0, 0))
                    · (first | rfl | (go_simp; done) | (simp [Region.wanted, yielded]; done))
                    · exact fun γ' W hg hI hW => ⟨_, exec_copy rfl rfl rfl (run_copy_ovr (G := mixD h m 4) hW ((hI.far D (lt_of_heap hE.hS) (by have := hE.lt; omega)).trans hE.hS) (by omega) (by omega) (by omega) (fun j _ => by rw [Nat.zero_add])), by rw [rwb_congr (fun j _ => mixV_copy j)]; exact only_setRow hW⟩
                    go_simp
                    apply SeqF.done
                    intro w9 hI9
                    have hD9 := hE.d.next hI9 (Gh.set_here _ _ _)
                    clear hI9 hE
                    go_simp
                    go_wp2_with fail
                    go_roundw
                    case rel =>
                      first
                        | exact ⟨m + 4, by omega, Lib.hid (by have := HM4.out; omega), by go_num, hD9⟩
                        | ((repeat apply Exists.intro); refine ⟨?_, rfl⟩; exact ⟨m + 4, by omega, Lib.hid (by have := HM4.out; omega), by go_num, hD9⟩)
                    case measure => first | (simp [intOf]; done) | (simp [intOf]; omega)
                  case hl => rfl
                  case ho => kernel_rfl
            · obtain rfl : m = 16 := by omega
              obtain ⟨g, hg⟩ : ∃ g, mixU h = g := ⟨_, rfl⟩
              have DX := hD3.congr (g' := g) (fun j hj => by rw [← hg]; exact if_pos hj)
              have HGB : Hid (∀ j, 0 ≤ g j ∧ g j ≤ 255) := Lib.hid (fun j => by rw [← hg]; exact xr_b _ _)
              have HG : Hid (shU g = dtF F b (10 - (R - 1))) := Lib.hid (by
                rw [← hg, ← HH.out, ← HS.out, show 10 - (R - 1) = (10 - R) + 1 by omega]
                show _ = shU (if 10 - (10 - R) < 10 then mixU (addF (dtF F b (10 - R)) F (10 - (10 - R))) else addF (dtF F b (10 - R)) F (10 - (10 - R)))
                rw [show 10 - (10 - R) = R by omega, if_pos hr10])
              clear hD3 hg
              go_wp2_with fail
              rw [zeros16]
              obtain ⟨S, hSs⟩ : ∃ S, wr.heap.size = S := ⟨_, rfl⟩
              have hA := DX.alloc (.cells (rwb 16 fun _ => 0) 28)
              obtain ⟨V, hV⟩ : ∃ V, wr.alloc (.cells (rwb 16 fun _ => 0) 28) = V := ⟨_, rfl⟩
              rw [hV, hSs] at hA
              have hE : DS w V B C S F g (.cells (rwb 16 (shV g 0 0)) 28 (0, 0)) := by
                rw [rwb_congr (f := shV g 0 0) (g := fun _ => 0) (fun j _ => if_neg (by omega))]
                exact hA
              rw [hV, hSs]
              clear hV hSs hA DX
              go_loopw [73] (fun i wr => ∃ ρ : Nat, ρ ≤ 4 ∧ i = .int .i64 ρ ∧ DS w wr B C S F g (.cells (rwb 16 (shV g ρ 0)) 28 (0, 0))) (fun i _ => 4 - (intOf i).toNat)
              case atStart => exact ⟨0, by omega, rfl, hE⟩
              case round =>
                clear hE
                obtain ⟨ρ, hρ, rfl, hE⟩ := hrel
                by_cases hρ4 : ρ < 4
                · have hρi : (ρ : Int) < 4 := by omega
                  have hρ0 : (0 : Int) ≤ (ρ : Int) := by omega
                  go_wp2_with fail
                  go_loopw [76] (fun i wr => ∃ c : Nat, c ≤ 4 ∧ i = .int .i64 c ∧ DS w wr B C S F g (.cells (rwb 16 (shV g ρ c)) 28 (0, 0))) (fun i _ => 4 - (intOf i).toNat)
                  case atStart => exact ⟨0, by omega, rfl, hE⟩
                  case round =>
                    clear hE
                    obtain ⟨c, hc, rfl, hE⟩ := hrel
                    by_cases hc4 : c < 4
                    · have hci : (c : Int) < 4 := by omega
                      have hc0 : (0 : Int) ≤ (c : Int) := by omega
                      obtain ⟨p1, hp1⟩ : ∃ p, 4 * ((c + ρ) % 4) + ρ = p := ⟨_, rfl⟩
                      obtain ⟨p2, hp2⟩ : ∃ p, 4 * (c % 4) + ρ = p := ⟨_, rfl⟩
                      obtain ⟨y, hy⟩ := Int.eq_ofNat_of_zero_le (HGB.out p2).1
                      have hyl : y < 256 := by have := HGB.out p2; omega
                      have hyi : (y : Int) < 256 := by omega
                      have hP1 := fun w => place_any ρ (c + ρ) w hρ4 (by omega)
                      have hP2 := fun w => place_any ρ c w hρ4 (by omega)
                      rw [hp1] at hP1
                      rw [hp2] at hP2
                      have h1i : (p1 : Int) < 16 := by omega
                      have h2i : (p2 : Int) < 16 := by omega
                      have h1l : p1 < 16 := by omega
                      have h2l : p2 < 16 := by omega
                      have hwa : IntKind.i64.wrap ((c : Int) + (ρ : Int)) = (c : Int) + (ρ : Int) := IntWalk.i64_in _ (by omega)
                      have HST := Lib.hid (shV_step (b := g) hρ4 hc4 hp1 hp2 hy)
                      have HY := Lib.hid hy
                      have HP1 := Lib.hid hP1
                      have HP2 := Lib.hid hP2
                      clear hp1 hp2 hy hP1 hP2
                      go_wp2_with fail
                      apply wp_region_eff _ _ hE.inv (hm := by kernel_rfl)
                      case h =>
                        (apply SeqF.pure; (focus (first | rfl | (go_simp; done) | (simp [Region.wanted, yielded]; done))); (focus (intro w; go_simp; with_reducible rfl)); go_simp)
                        (apply SeqF.pure; (focus (first | rfl | (go_simp; done) | (simp [Region.wanted, yielded]; done))); (focus (intro w; go_simp; with_reducible rfl)); go_simp)
                        (apply SeqF.pure; (focus (first | rfl | (go_simp; done) | (simp [Region.wanted, yielded]; done))); (focus (intro w; go_simp; with_reducible rfl)); go_simp)
                        (apply SeqF.pure; (focus (first | rfl | (go_simp; done) | (simp [Region.wanted, yielded]; done))); (focus (intro w; go_simp; with_reducible rfl)); go_simp)
                        apply SeqF.call (v := .int .i64 (p1 : Nat)) [] 32 #[.int .i64 ρ, .int .i64 ((c + ρ : Nat) : Int)]
                        · (first | rfl | (go_simp; done) | (simp [Region.wanted, yielded]; done))
                        · intro w; kernel_rfl
                        · exact fun γ' W hg hI => (HP1.out W).mono (by rintro e W' ⟨rfl, rfl⟩; exact ⟨rfl, hI⟩)
                        go_simp
                        (apply SeqF.pure; (focus (first | rfl | (go_simp; done) | (simp [Region.wanted, yielded]; done))); (focus (intro w; go_simp; with_reducible rfl)); go_simp)
                        (apply SeqF.pure; (focus (first | rfl | (go_simp; done) | (simp [Region.wanted, yielded]; done))); (focus (intro w; go_simp; with_reducible rfl)); go_simp)
                        (apply SeqF.pure; (focus (first | rfl | (go_simp; done) | (simp [Region.wanted, yielded]; done))); (focus (intro w; go_simp; with_reducible rfl)); go_simp)
                        apply SeqF.call (v := .int .i64 (p2 : Nat)) [] 32 #[.int .i64 ρ, .int .i64 c]
                        · (first | rfl | (go_simp; done) | (simp [Region.wanted, yielded]; done))
                        · intro w; kernel_rfl
                        · exact fun γ' W hg hI => (HP2.out W).mono (by rintro e W' ⟨rfl, rfl⟩; exact ⟨rfl, hI⟩)
                        go_simp
                        (apply SeqF.pure; (focus (first | rfl | (go_simp; done) | (simp [Region.wanted, yielded]; done))); (focus (intro w; go_simp; with_reducible rfl)); go_simp)
                        apply SeqF.read (v := .int .u8 (y : Nat)) []
                        · (first | rfl | (go_simp; done) | (simp [Region.wanted, yielded]; done))
                        · intro γ' W hg hI
                          have x0 := hE.cellB hI h2l
                          rw [HY.out] at x0
                          go_simp
                        go_simp
                        (apply SeqF.pure; (focus (first | rfl | (go_simp; done) | (simp [Region.wanted, yielded]; done))); (focus (intro w; go_simp; with_reducible rfl)); go_simp)
                        (apply SeqF.pure; (focus (first | rfl | (go_simp; done) | (simp [Region.wanted, yielded]; done))); (focus (intro w; go_simp; with_reducible rfl)); go_simp)
                        (apply SeqF.pure; (focus (first | rfl | (go_simp; done) | (simp [Region.wanted, yielded]; done))); (focus (intro w; go_simp; with_reducible rfl)); go_simp)
                        apply SeqF.read (v := .int .u8 (unsI y)) []
                        · (first | rfl | (go_simp; done) | (simp [Region.wanted, yielded]; done))
                        · intro γ' W hg hI
                          have x0 := hE.cellC hI hyl
                          go_simp
                        go_simp
                        (apply SeqF.pure; (focus (first | rfl | (go_simp; done) | (simp [Region.wanted, yielded]; done))); (focus (intro w; go_simp; with_reducible rfl)); go_simp)
                        apply SeqF.store [0] 0 S (.cells (rwb 16 (shV g ρ c)) 28 (0, 0)) rfl (by simp) (fun _ => .cells (rwb 16 (shV g ρ (c + 1))) 28 (0, 0))
                        · exact fun _ _ => rfl
                        · (first | rfl | (go_simp; done) | (simp [Region.wanted, yielded]; done))
                        · exact fun γ' W hg hI hW => exec_stc rfl rfl rfl h1l HST.out hW
                        go_simp
                        apply SeqF.done
                        intro w9 hI9
                        have hE9 := hE.next hI9 (Gh.set_here _ _ _)
                        clear hI9 hE
                        go_simp
                        go_wp2_with fail
                        go_roundw
                        case rel =>
                          first
                            | exact ⟨c + 1, by omega, by go_num, hE9⟩
                            | ((repeat apply Exists.intro); refine ⟨?_, rfl⟩; exact ⟨c + 1, by omega, by go_num, hE9⟩)
                        case measure => first | (simp [intOf]; done) | (simp [intOf]; omega)
                      case hl => rfl
                      case ho => kernel_rfl
                    · obtain rfl : c = 4 := by omega
                      go_wp2_with fail
                      go_roundw
                      case rel =>
                        first
                          | exact ⟨ρ + 1, by omega, by go_num, hE.congrS shV_row⟩
                          | ((repeat apply Exists.intro); refine ⟨?_, rfl⟩; exact ⟨ρ + 1, by omega, by go_num, hE.congrS shV_row⟩)
                      case measure => first | (simp [intOf]; done) | (simp [intOf]; omega)
                · obtain rfl : ρ = 4 := by omega
                  have hE2 := hE.congrS shV_all
                  clear hE
                  have hwr : IntKind.i64.wrap ((R : Int) - 1) = ((R - 1 : Nat) : Int) := (IntWalk.i64_in _ (by omega)).trans (by omega)
                  go_wp2_with (first | (with_reducible refine wpList_ld rowBlock rfl (.tmp 9) rfl rfl hE2.hS (by omega) (G := shU g) (fun j _ => by rw [Nat.zero_add]) ?_) | (with_reducible refine wpList_st rowBlock rfl (.tmp 3) (.tmp 97) rfl rfl rfl hE2.d.hB ?_))
                  have hD9 := hE2.setB (shU g)
                  rw [HG.out] at hD9
                  go_roundw
                  case rel =>
                    first
                      | exact ⟨R - 1, by omega, rfl, by rw [← HG.out] at hD9 ⊢; exact hD9⟩
                      | ((repeat apply Exists.intro); refine ⟨?_, rfl⟩; exact ⟨R - 1, by omega, rfl, by rw [← HG.out] at hD9 ⊢; exact hD9⟩)
                  case measure => first | (simp [intOf]; done) | (simp [intOf]; omega)
        · have hr10i : ¬ (R : Int) < 10 := by omega
          obtain ⟨g, hg⟩ : ∃ g, h = g := ⟨_, rfl⟩
          have DX := hD1.congr (g' := g) (fun j _ => by rw [hg])
          have HGB : Hid (∀ j, 0 ≤ g j ∧ g j ≤ 255) := Lib.hid (fun j => by rw [← hg]; exact HHB.out j)
          have HG : Hid (shU g = dtF F b (10 - (R - 1))) := Lib.hid (by
            rw [← hg, ← HH.out, ← HS.out, show 10 - (R - 1) = (10 - R) + 1 by omega]
            show _ = shU (if 10 - (10 - R) < 10 then mixU (addF (dtF F b (10 - R)) F (10 - (10 - R))) else addF (dtF F b (10 - R)) F (10 - (10 - R)))
            rw [show 10 - (10 - R) = R by omega, if_neg hr10])
          clear hD1 hg
          go_wp2_with fail
          rw [zeros16]
          obtain ⟨S, hSs⟩ : ∃ S, w1.heap.size = S := ⟨_, rfl⟩
          have hA := DX.alloc (.cells (rwb 16 fun _ => 0) 28)
          obtain ⟨V, hV⟩ : ∃ V, w1.alloc (.cells (rwb 16 fun _ => 0) 28) = V := ⟨_, rfl⟩
          rw [hV, hSs] at hA
          have hE : DS w V B C S F g (.cells (rwb 16 (shV g 0 0)) 28 (0, 0)) := by
            rw [rwb_congr (f := shV g 0 0) (g := fun _ => 0) (fun j _ => if_neg (by omega))]
            exact hA
          rw [hV, hSs]
          clear hV hSs hA DX
          go_loopw [73] (fun i wr => ∃ ρ : Nat, ρ ≤ 4 ∧ i = .int .i64 ρ ∧ DS w wr B C S F g (.cells (rwb 16 (shV g ρ 0)) 28 (0, 0))) (fun i _ => 4 - (intOf i).toNat)
          case atStart => exact ⟨0, by omega, rfl, hE⟩
          case round =>
            clear hE
            obtain ⟨ρ, hρ, rfl, hE⟩ := hrel
            by_cases hρ4 : ρ < 4
            · have hρi : (ρ : Int) < 4 := by omega
              have hρ0 : (0 : Int) ≤ (ρ : Int) := by omega
              go_wp2_with fail
              go_loopw [76] (fun i wr => ∃ c : Nat, c ≤ 4 ∧ i = .int .i64 c ∧ DS w wr B C S F g (.cells (rwb 16 (shV g ρ c)) 28 (0, 0))) (fun i _ => 4 - (intOf i).toNat)
              case atStart => exact ⟨0, by omega, rfl, hE⟩
              case round =>
                clear hE
                obtain ⟨c, hc, rfl, hE⟩ := hrel
                by_cases hc4 : c < 4
                · have hci : (c : Int) < 4 := by omega
                  have hc0 : (0 : Int) ≤ (c : Int) := by omega
                  obtain ⟨p1, hp1⟩ : ∃ p, 4 * ((c + ρ) % 4) + ρ = p := ⟨_, rfl⟩
                  obtain ⟨p2, hp2⟩ : ∃ p, 4 * (c % 4) + ρ = p := ⟨_, rfl⟩
                  obtain ⟨y, hy⟩ := Int.eq_ofNat_of_zero_le (HGB.out p2).1
                  have hyl : y < 256 := by have := HGB.out p2; omega
                  have hyi : (y : Int) < 256 := by omega
                  have hP1 := fun w => place_any ρ (c + ρ) w hρ4 (by omega)
                  have hP2 := fun w => place_any ρ c w hρ4 (by omega)
                  rw [hp1] at hP1
                  rw [hp2] at hP2
                  have h1i : (p1 : Int) < 16 := by omega
                  have h2i : (p2 : Int) < 16 := by omega
                  have h1l : p1 < 16 := by omega
                  have h2l : p2 < 16 := by omega
                  have hwa : IntKind.i64.wrap ((c : Int) + (ρ : Int)) = (c : Int) + (ρ : Int) := IntWalk.i64_in _ (by omega)
                  have HST := Lib.hid (shV_step (b := g) hρ4 hc4 hp1 hp2 hy)
                  have HY := Lib.hid hy
                  have HP1 := Lib.hid hP1
                  have HP2 := Lib.hid hP2
                  clear hp1 hp2 hy hP1 hP2
                  go_wp2_with fail
                  apply wp_region_eff _ _ hE.inv (hm := by kernel_rfl)
                  case h =>
                    (apply SeqF.pure; (focus (first | rfl | (go_simp; done) | (simp [Region.wanted, yielded]; done))); (focus (intro w; go_simp; with_reducible rfl)); go_simp)
                    (apply SeqF.pure; (focus (first | rfl | (go_simp; done) | (simp [Region.wanted, yielded]; done))); (focus (intro w; go_simp; with_reducible rfl)); go_simp)
                    (apply SeqF.pure; (focus (first | rfl | (go_simp; done) | (simp [Region.wanted, yielded]; done))); (focus (intro w; go_simp; with_reducible rfl)); go_simp)
                    (apply SeqF.pure; (focus (first | rfl | (go_simp; done) | (simp [Region.wanted, yielded]; done))); (focus (intro w; go_simp; with_reducible rfl)); go_simp)
                    apply SeqF.call (v := .int .i64 (p1 : Nat)) [] 32 #[.int .i64 ρ, .int .i64 ((c + ρ : Nat) : Int)]
                    · (first | rfl | (go_simp; done) | (simp [Region.wanted, yielded]; done))
                    · intro w; kernel_rfl
                    · exact fun γ' W hg hI => (HP1.out W).mono (by rintro e W' ⟨rfl, rfl⟩; exact ⟨rfl, hI⟩)
                    go_simp
                    (apply SeqF.pure; (focus (first | rfl | (go_simp; done) | (simp [Region.wanted, yielded]; done))); (focus (intro w; go_simp; with_reducible rfl)); go_simp)
                    (apply SeqF.pure; (focus (first | rfl | (go_simp; done) | (simp [Region.wanted, yielded]; done))); (focus (intro w; go_simp; with_reducible rfl)); go_simp)
                    (apply SeqF.pure; (focus (first | rfl | (go_simp; done) | (simp [Region.wanted, yielded]; done))); (focus (intro w; go_simp; with_reducible rfl)); go_simp)
                    apply SeqF.call (v := .int .i64 (p2 : Nat)) [] 32 #[.int .i64 ρ, .int .i64 c]
                    · (first | rfl | (go_simp; done) | (simp [Region.wanted, yielded]; done))
                    · intro w; kernel_rfl
                    · exact fun γ' W hg hI => (HP2.out W).mono (by rintro e W' ⟨rfl, rfl⟩; exact ⟨rfl, hI⟩)
                    go_simp
                    (apply SeqF.pure; (focus (first | rfl | (go_simp; done) | (simp [Region.wanted, yielded]; done))); (focus (intro w; go_simp; with_reducible rfl)); go_simp)
                    apply SeqF.read (v := .int .u8 (y : Nat)) []
                    · (first | rfl | (go_simp; done) | (simp [Region.wanted, yielded]; done))
                    · intro γ' W hg hI
                      have x0 := hE.cellB hI h2l
                      rw [HY.out] at x0
                      go_simp
                    go_simp
                    (apply SeqF.pure; (focus (first | rfl | (go_simp; done) | (simp [Region.wanted, yielded]; done))); (focus (intro w; go_simp; with_reducible rfl)); go_simp)
                    (apply SeqF.pure; (focus (first | rfl | (go_simp; done) | (simp [Region.wanted, yielded]; done))); (focus (intro w; go_simp; with_reducible rfl)); go_simp)
                    (apply SeqF.pure; (focus (first | rfl | (go_simp; done) | (simp [Region.wanted, yielded]; done))); (focus (intro w; go_simp; with_reducible rfl)); go_simp)
                    apply SeqF.read (v := .int .u8 (unsI y)) []
                    · (first | rfl | (go_simp; done) | (simp [Region.wanted, yielded]; done))
                    · intro γ' W hg hI
                      have x0 := hE.cellC hI hyl
                      go_simp
                    go_simp
                    (apply SeqF.pure; (focus (first | rfl | (go_simp; done) | (simp [Region.wanted, yielded]; done))); (focus (intro w; go_simp; with_reducible rfl)); go_simp)
                    apply SeqF.store [0] 0 S (.cells (rwb 16 (shV g ρ c)) 28 (0, 0)) rfl (by simp) (fun _ => .cells (rwb 16 (shV g ρ (c + 1))) 28 (0, 0))
                    · exact fun _ _ => rfl
                    · (first | rfl | (go_simp; done) | (simp [Region.wanted, yielded]; done))
                    · exact fun γ' W hg hI hW => exec_stc rfl rfl rfl h1l HST.out hW
                    go_simp
                    apply SeqF.done
                    intro w9 hI9
                    have hE9 := hE.next hI9 (Gh.set_here _ _ _)
                    clear hI9 hE
                    go_simp
                    go_wp2_with fail
                    go_roundw
                    case rel =>
                      first
                        | exact ⟨c + 1, by omega, by go_num, hE9⟩
                        | ((repeat apply Exists.intro); refine ⟨?_, rfl⟩; exact ⟨c + 1, by omega, by go_num, hE9⟩)
                    case measure => first | (simp [intOf]; done) | (simp [intOf]; omega)
                  case hl => rfl
                  case ho => kernel_rfl
                · obtain rfl : c = 4 := by omega
                  go_wp2_with fail
                  go_roundw
                  case rel =>
                    first
                      | exact ⟨ρ + 1, by omega, by go_num, hE.congrS shV_row⟩
                      | ((repeat apply Exists.intro); refine ⟨?_, rfl⟩; exact ⟨ρ + 1, by omega, by go_num, hE.congrS shV_row⟩)
                  case measure => first | (simp [intOf]; done) | (simp [intOf]; omega)
            · obtain rfl : ρ = 4 := by omega
              have hE2 := hE.congrS shV_all
              clear hE
              have hwr : IntKind.i64.wrap ((R : Int) - 1) = ((R - 1 : Nat) : Int) := (IntWalk.i64_in _ (by omega)).trans (by omega)
              go_wp2_with (first | (with_reducible refine wpList_ld rowBlock rfl (.tmp 9) rfl rfl hE2.hS (by omega) (G := shU g) (fun j _ => by rw [Nat.zero_add]) ?_) | (with_reducible refine wpList_st rowBlock rfl (.tmp 3) (.tmp 97) rfl rfl rfl hE2.d.hB ?_))
              have hD9 := hE2.setB (shU g)
              rw [HG.out] at hD9
              go_roundw
              case rel =>
                first
                  | exact ⟨R - 1, by omega, rfl, by rw [← HG.out] at hD9 ⊢; exact hD9⟩
                  | ((repeat apply Exists.intro); refine ⟨?_, rfl⟩; exact ⟨R - 1, by omega, rfl, by rw [← HG.out] at hD9 ⊢; exact hD9⟩)
              case measure => first | (simp [intOf]; done) | (simp [intOf]; omega)
      case hl => rfl
      case ho => kernel_rfl
    · obtain rfl : R = 0 := by omega
      go_wp2_with fail
      apply wp_region_eff _ _ hD.invR (hm := by kernel_rfl)
      case h =>
        apply SeqF.read (v := .agg (rwb 16 s)) []
        · (first | rfl | (go_simp; done) | (simp [Region.wanted, yielded]; done))
        · exact fun γ' W hg hI => exec_load rfl rfl (run_load_rwb rowBlock ((hI.far B (lt_of_heap hD.hB) (by omega)).trans hD.hB) (by omega) (fun j _ => by rw [Nat.zero_add]))
        go_simp
        (apply SeqF.pure; (focus (first | rfl | (go_simp; done) | (simp [Region.wanted, yielded]; done))); (focus (intro w; go_simp; with_reducible rfl)); go_simp)
        (apply SeqF.pure; (focus (first | rfl | (go_simp; done) | (simp [Region.wanted, yielded]; done))); (focus (intro w; go_simp; with_reducible rfl)); go_simp)
        (apply SeqF.pure; (focus (first | rfl | (go_simp; done) | (simp [Region.wanted, yielded]; done))); (focus (intro w; go_simp; with_reducible rfl)); go_simp)
        (apply SeqF.pure; (focus (first | rfl | (go_simp; done) | (simp [Region.wanted, yielded]; done))); (focus (intro w; go_simp; with_reducible rfl)); go_simp)
        apply SeqF.read (v := .agg (rwb 16 fun j => F (16 * 0 + j))) []
        · (first | rfl | (go_simp; done) | (simp [Region.wanted, yielded]; done))
        · exact fun γ' W hg hI => exec_load rfl rfl (key_row (r := 0) ((hI.far C (lt_of_heap hD.hC) (by have := hD.lt; omega)).trans hD.hC) (by omega))
        go_simp
        apply SeqF.call (v := .agg (rwb 16 (dmF F b))) [] 31 #[.agg (rwb 16 s), .agg (rwb 16 fun j => F (16 * 0 + j))]
        · (first | rfl | (go_simp; done) | (simp [Region.wanted, yielded]; done))
        · intro w; kernel_rfl
        · exact fun γ' W hg hI => (against_any _ _ W).mono (by rintro e W' ⟨rfl, hb⟩; exact ⟨by rw [← HS.out]; rfl, hI.below hb⟩)
        go_simp
        apply SeqF.store [0] 0 (B + 1) (.cells (rwb 16 fun _ => 0) 28 (0, 0)) rfl (by simp) (fun _ => .cells (rwb 16 (dmF F b)) 28 (0, 0))
        · exact fun _ _ => rfl
        · (first | rfl | (go_simp; done) | (simp [Region.wanted, yielded]; done))
        · exact fun γ' W hg hI hW => ⟨_, exec_store rfl rfl rfl (run_store_rwb rowBlock hW), only_setRow hW⟩
        go_simp
        apply SeqF.done
        intro w9 hI9
        have HR9 := Lib.hid (hI9.here 0 (B + 1) _ (Gh.set_here _ _ _)).1
        have HL9 : Hid (Below w.heap.size w w9) := Lib.hid (hI9.belowS (by rw [hB]; exact hD.hL) (by rw [hB]; have := lt_of_heap hD.hB; omega) (by rintro q rfl; omega))
        clear hI9
        go_simp
        go_wp2_with fail
        refine bodyPost_ret (v := .agg (rwb 16 (dmF F b))) ?_ rfl ?_
        · exact results_cell (fn := Try.f25) Try.results25 rfl (run_loadVar_rwb rowBlock HR9.out (by omega) (fun j _ => by rw [Nat.zero_add]))
        · exact ⟨rfl, HL9.out⟩
      case hl => rfl
      case ho => kernel_rfl
end Go.Proofs.Ytppponobefljgaa
