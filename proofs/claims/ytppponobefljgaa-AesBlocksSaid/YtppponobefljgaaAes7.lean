/- What is proved: what a cipher's Encrypt of package aes answers when it is called; conditions: the cipher's block holds what it is said to. -/
import Derived.Test.YtppponobefljgaaAes6
set_option linter.unusedSimpArgs false
set_option linter.unusedVariables false
namespace Go.Proofs.Ytppponobefljgaa
open Go.RowKit
set_option maxRecDepth 100000
set_option maxHeartbeats 8000000
def twI (x : Int) : Int := (x2 x.toNat : Nat)
/-- The bytes substituted, the rows turned. -/
def shF (b : Nat → Int) (j : Nat) : Int := sbI (b (4 * ((j / 4 + j % 4) % 4) + j % 4))
def allF (s : Nat → Int) (i : Nat) : Int := xr (xr (xr (s i) (s (i + 1))) (s (i + 2))) (s (i + 3))
/-- The columns mixed. -/
def mixF (s : Nat → Int) (j : Nat) : Int := xr (s j) (xr (allF s (4 * (j / 4))) (twI (xr (s j) (s (4 * (j / 4) + (j + 1) % 4)))))
def addF (s F : Nat → Int) (r : Nat) (j : Nat) : Int := xr (s j) (F (16 * r + j))
/-- The state behind so many rounds. -/
def stF (F b : Nat → Int) : Nat → Nat → Int
  | 0 => addF b F 0
  | r + 1 => addF (if r + 1 < 10 then mixF (shF (stF F b r)) else shF (stF F b r)) F (r + 1)
theorem stF_b (F b : Nat → Int) (r j : Nat) : 0 ≤ stF F b r j ∧ stF F b r j ≤ 255 := by
  cases r with
  | zero => exact xr_b _ _
  | succ r => exact xr_b _ _
theorem key_row {w : World} {C : Nat} {F : Nat → Int} (hC : w.heap[C]? = some (.cells (rwb 688 (cphF F)) 43 (0, 0))) {r : Nat} (hr : r < 11) : (Instr.loadAt 28 (.pointer (some ⟨C, r * 16, none⟩))).run Try.prog w = .ok (.agg (rwb 16 fun j => F (16 * r + j))) w :=
  run_load_rwb rowBlock hC (by omega) (fun j hj => by
    show (if r * 16 + j < 176 then F (r * 16 + j) else _) = _
    rw [if_pos (by omega), Nat.mul_comm])
theorem sub_cell {w : World} {C : Nat} {F : Nat → Int} (hC : w.heap[C]? = some (.cells (rwb 688 (cphF F)) 43 (0, 0))) {x : Nat} (hx : x < 256) : w.cell? ⟨C, 176 + x, none⟩ = some (.int .u8 (subI x)) := by
  rw [cell_rwb hC (by omega)]
  show some (Value.int .u8 (if 176 + x < 176 then F (176 + x) else if 176 + x < 432 then subI (176 + x - 176) else unsI (176 + x - 432))) = _
  rw [if_neg (by omega), if_pos (by omega), Nat.add_sub_cancel_left]
/-- The bytes substituted and turned, so many rows and columns of them. -/
def shP (b : Nat → Int) (ρ c : Nat) (j : Nat) : Int := if j % 4 < ρ ∨ (j % 4 = ρ ∧ j / 4 < c) then shF b j else 0
def mixQ (s : Nat → Int) (m : Nat) (j : Nat) : Int := if j < m then mixF s j else s j
structure EncSt (w wr : World) (B C S : Nat) (F g s : Nat → Int) : Prop where
  hB : wr.heap[B]? = some (.cells (rwb 16 g) 28 (0, 0))
  hR : wr.heap[B + 1]? = some (.cells (rwb 16 fun _ => 0) 28 (0, 0))
  hC : wr.heap[C]? = some (.cells (rwb 688 (cphF F)) 43 (0, 0))
  hS : wr.heap[S]? = some (.cells (rwb 16 s) 28 (0, 0))
  hL : Below B w wr
  lt : C < B ∧ B + 1 < S ∧ w.heap.size = B
theorem EncSt.congr {w wr : World} {B C S : Nat} {F g s s' : Nat → Int} (h : EncSt w wr B C S F g s) (hs : ∀ j, j < 16 → s j = s' j) : EncSt w wr B C S F g s' :=
  ⟨h.hB, h.hR, h.hC, by rw [h.hS, rwb_congr hs], h.hL, h.lt⟩
theorem EncSt.inv {w wr : World} {B C S : Nat} {F g s : Nat → Int} (h : EncSt w wr B C S F g s) : Inv wr (fun q => q = S) (gh2 (some (S, .cells (rwb 16 s) 28 (0, 0))) none) wr.drew :=
  Inv.start2 h.hS rfl (by rintro g o h; cases h)
theorem EncSt.next {w wr w1 : World} {B C S : Nat} {F g s s' : Nat → Int} {γ : Gh} (h : EncSt w wr B C S F g s) (hI : Inv wr (fun q => q = S) γ w1) (hγ : γ 0 = some (S, .cells (rwb 16 s') 28 (0, 0))) : EncSt w w1 B C S F g s' :=
  ⟨(hI.far B (lt_of_heap h.hB) (by have := h.lt; omega)).trans h.hB, (hI.far (B + 1) (lt_of_heap h.hR) (by have := h.lt; omega)).trans h.hR, (hI.far C (lt_of_heap h.hC) (by have := h.lt; omega)).trans h.hC, (hI.here 0 S _ hγ).1, hI.belowS h.hL (by have := lt_of_heap h.hB; omega) (by rintro q rfl; have := h.lt; omega), h.lt⟩
theorem EncSt.drew {w wr : World} {B C S : Nat} {F g s : Nat → Int} (h : EncSt w wr B C S F g s) : EncSt w wr.drew B C S F g s := ⟨h.hB, h.hR, h.hC, h.hS, bl_drew h.hL, h.lt⟩
theorem EncSt.cellB {w wr W : World} {B C S : Nat} {F g s : Nat → Int} {γ : Gh} (h : EncSt w wr B C S F g s) (hI : Inv wr (fun q => q = S) γ W) {j : Nat} (hj : j < 16) : W.cell? ⟨B, j, none⟩ = some (.int .u8 (g j)) :=
  cell_rwb ((hI.far B (lt_of_heap h.hB) (by have := h.lt; omega)).trans h.hB) hj
theorem EncSt.cellC {w wr W : World} {B C S : Nat} {F g s : Nat → Int} {γ : Gh} (h : EncSt w wr B C S F g s) (hI : Inv wr (fun q => q = S) γ W) {x : Nat} (hx : x < 256) : W.cell? ⟨C, 176 + x, none⟩ = some (.int .u8 (subI x)) :=
  sub_cell ((hI.far C (lt_of_heap h.hC) (by have := h.lt; omega)).trans h.hC) hx
theorem exec_stc {o : Oper} {a : Act} {x y : Operand} {W : World} {S i n : Nat} {s s' : Nat → Int} {v : Int} {t : TypeId} (ho : o.op = .store 5 x y) (hx : a.eval x = .pointer (some ⟨S, i, none⟩)) (hy : a.eval y = .int .u8 v) (hi : i < n) (hs : ∀ j, j < n → upd s i v j = s' j) (hW : W.heap[S]? = some (.cells (rwb n s) t (0, 0))) :
    ∃ w', (execOp a.eval o).run Try.prog W = .ok .skip w' ∧ Only S (.cells (rwb n s') t (0, 0)) W w' := by
  refine ⟨W.setCell ⟨S, i, none⟩ (.int .u8 v), exec_store ho hx hy ?_, rfl, rfl, rfl, by simp, shut_row hW hi hs, fun q hq => heap_setCell_other W _ q _ hq⟩
  have d0 := cell_rwb hW hi
  have d1 := frozen_of_row W S i _ _ hW
  go_simp
theorem shP_step {b : Nat → Int} {ρ c : Nat} (hρ : ρ < 4) (hc : c < 4) {p1 p2 : Nat} (h1 : 4 * (c % 4) + ρ = p1) (h2 : 4 * ((c + ρ) % 4) + ρ = p2) {y : Nat} (hy : b p2 = (y : Int)) (j : Nat) (hj : j < 16) : upd (shP b ρ c) p1 (subI y) j = shP b ρ (c + 1) j := by
  unfold upd shP
  by_cases e : j = p1
  · rw [if_pos e, if_pos (.inr (by omega))]
    unfold shF sbI
    rw [show 4 * ((j / 4 + j % 4) % 4) + j % 4 = p2 by omega, hy]
    rfl
  · rw [if_neg e]
    by_cases h : j % 4 < ρ ∨ (j % 4 = ρ ∧ j / 4 < c)
    · rw [if_pos h, if_pos (by omega)]
    · rw [if_neg h, if_neg (by omega)]
theorem shP_row {b : Nat → Int} {ρ : Nat} (j : Nat) (hj : j < 16) : shP b ρ 4 j = shP b (ρ + 1) 0 j := by
  unfold shP
  by_cases h : j % 4 < ρ ∨ (j % 4 = ρ ∧ j / 4 < 4)
  · rw [if_pos h, if_pos (by omega)]
  · rw [if_neg h, if_neg (by omega)]
theorem shP_all {b : Nat → Int} (j : Nat) (hj : j < 16) : shP b 4 0 j = shF b j := by
  unfold shP
  rw [if_pos (by omega)]
theorem mixQ_step {s : Nat → Int} {m k : Nat} {z : Int} (hz : z = mixF s (m + k)) (j : Nat) : upd (mixQ s (m + k)) (m + k) z j = mixQ s (m + k + 1) j := by
  unfold upd mixQ
  by_cases e : j = m + k
  · rw [if_pos e, if_pos (by omega), e, hz]
  · rw [if_neg e]
    by_cases h : j < m + k
    · rw [if_pos h, if_pos (by omega)]
    · rw [if_neg h, if_neg (by omega)]
theorem mixQ_at {s : Nat → Int} {W : World} {S i : Nat} {t : TypeId} (hW : W.heap[S]? = some (.cells (rwb 16 (mixQ s i)) t (0, 0))) (hi : i < 16) {v : Int} (hv : s i = v) : W.cell? ⟨S, i, none⟩ = some (.int .u8 v) := by
  rw [cell_rwb hW hi]
  unfold mixQ
  rw [if_neg (by omega), hv]
theorem mixQ_far {s : Nat → Int} {W : World} {S i m : Nat} {t : TypeId} (hW : W.heap[S]? = some (.cells (rwb 16 (mixQ s m)) t (0, 0))) (hi : i < 16) (hm : m ≤ i) {v : Int} (hv : s i = v) : W.cell? ⟨S, i, none⟩ = some (.int .u8 v) := by
  rw [cell_rwb hW hi]
  unfold mixQ
  rw [if_neg (by omega), hv]
theorem shF_b {g : Nat → Int} (h : ∀ j, 0 ≤ g j ∧ g j ≤ 255) (j : Nat) : 0 ≤ shF g j ∧ shF g j ≤ 255 := sbI_b (h _)
theorem mixF_at {s : Nat → Int} {m k : Nat} (hm : m % 4 = 0) (hk : k < 4) {v0 v1 v2 v3 al x y : Int} {n : Nat} (h0 : s m = v0) (h1 : s (m + 1) = v1) (h2 : s (m + 2) = v2) (h3 : s (m + 3) = v3) (hal : xr (xr (xr v0 v1) v2) v3 = al) (hx : s (m + k) = x) (hy : s (m + (k + 1) % 4) = y) (hn : xr x y = (n : Int)) : mixF s (m + k) = bits .xor .u8 x (bits .xor .u8 al ((x2 n : Nat) : Int)) := by
  unfold mixF allF
  rw [show 4 * ((m + k) / 4) = m by omega, show (m + k + 1) % 4 = (k + 1) % 4 by omega, h0, h1, h2, h3, hal, hx, hy, hn]
  rfl
theorem encm_any (C : Nat) (F b : Nat → Int) (w : World) (hC : w.heap[C]? = some (.cells (rwb 688 (cphF F)) 43 (0, 0))) : Calls Try.prog 24 #[.pointer (some ⟨C, 0, none⟩), .agg (rwb 16 b)] w fun e w' => e = .returned (.agg (rwb 16 (stF F b 10))) ∧ Below w.heap.size w w' := by
  have HC := Lib.hid hC
  have hCl := lt_of_heap hC
  clear hC
  go_enter Try.func24, Try.ntmps24
  go_wp2_with fail
  rw [zeros16]
  obtain ⟨B, hB⟩ : ∃ B, w.heap.size = B := ⟨_, rfl⟩
  obtain ⟨W0, hW0⟩ : ∃ W0, (w.alloc (.cells (rwb 16 b) 28)).alloc (.cells (rwb 16 fun _ => 0) 28) = W0 := ⟨_, rfl⟩
  have HB0 : Hid (W0.heap[B]? = some (.cells (rwb 16 b) 28 (0, 0))) := Lib.hid (by rw [← hW0, ← hB]; (simp only [heap_setRow_if, heap_alloc_if, heap_setCell_if, World.size_alloc, size_setRow, World.size_setCell]; simp) <;> (intros; omega))
  have HR0 : Hid (W0.heap[B + 1]? = some (.cells (rwb 16 fun _ => 0) 28 (0, 0))) := Lib.hid (by rw [← hW0, ← hB]; (simp only [heap_setRow_if, heap_alloc_if, heap_setCell_if, World.size_alloc, size_setRow, World.size_setCell]; simp) <;> (intros; omega))
  have HC0 : Hid (W0.heap[C]? = some (.cells (rwb 688 (cphF F)) 43 (0, 0))) := Lib.hid (by rw [← hW0, heap_alloc_if, if_neg (by simp; omega), heap_alloc_if, if_neg (by omega)]; exact HC.out)
  have HL0 : Hid (Below w.heap.size w W0) := Lib.hid (by rw [← hW0]; (repeat' (first | (with_reducible exact Below.refl _ _) | (with_reducible assumption) | (with_reducible refine Below.alloc ?_ ?_ _) | (with_reducible refine below_setRow ?_ ?_ _) | (with_reducible refine bl_drew ?_) | (with_reducible refine bl_drewN ?_ _) | (with_reducible refine Below.setCell ?_ ?_ _) | (with_reducible refine bl_then ?_ ?_ hb) | (with_reducible refine bl_then ?_ ?_ hb1) | (with_reducible refine bl_then ?_ ?_ hb2) | (with_reducible refine bl_then ?_ ?_ hb3) | (with_reducible refine bl_then ?_ ?_ hb4) | (with_reducible refine bl_then ?_ ?_ hb5) | (with_reducible refine bl_then ?_ ?_ hb6) | (with_reducible refine bl_then ?_ ?_ hb7) | (with_reducible refine bl_then ?_ ?_ hb8) | (with_reducible exact Nat.le_refl _) | omega | (simp only [World.size_alloc, World.size_setCell, World.size_drew, size_setRow]; omega) | (simp; omega) | (simp; done))))
  have HI0 : Hid (Inv W0 (fun g => g = B) (gh2 (some (B, .cells (rwb 16 b) 28 (0, 0))) none) W0.drew) := Lib.hid (Inv.start2 HB0.out rfl (by rintro g o h; cases h))
  have HCF : Hid (∀ W γ', Inv W0 (fun g => g = B) γ' W → W.heap[C]? = some (.cells (rwb 688 (cphF F)) 43 (0, 0))) := Lib.hid (fun W γ' hI => (hI.far C (lt_of_heap HC0.out) (by omega)).trans HC0.out)
  rw [hW0, hB]
  apply wp_region_eff _ _ HI0.out (hm := by kernel_rfl)
  case h =>
    (apply SeqF.read (v := .agg (rwb 16 b)) [0]; (focus (first | rfl | (go_simp; done) | (simp [Region.wanted, yielded]; done))); (focus (exact fun γ' W hg hI => exec_load rfl rfl (run_load_rwb rowBlock (hI.here 0 _ _ ((hg 0 (by simp)).trans rfl)).1 (by omega) (fun j _ => by rw [Nat.zero_add])))); go_simp)
    (apply SeqF.pure; (focus (first | rfl | (go_simp; done) | (simp [Region.wanted, yielded]; done))); (focus (intro w; go_simp; with_reducible rfl)); go_simp)
    (apply SeqF.pure; (focus (first | rfl | (go_simp; done) | (simp [Region.wanted, yielded]; done))); (focus (intro w; go_simp; with_reducible rfl)); go_simp)
    (apply SeqF.pure; (focus (first | rfl | (go_simp; done) | (simp [Region.wanted, yielded]; done))); (focus (intro w; go_simp; with_reducible rfl)); go_simp)
    (apply SeqF.pure; (focus (first | rfl | (go_simp; done) | (simp [Region.wanted, yielded]; done))); (focus (intro w; go_simp; with_reducible rfl)); go_simp)
    (apply SeqF.read (v := .agg (rwb 16 fun j => F (16 * 0 + j))) []; (focus (first | rfl | (go_simp; done) | (simp [Region.wanted, yielded]; done))); (focus (exact fun γ' W hg hI => exec_load rfl rfl (key_row (r := 0) (HCF.out W γ' hI) (by omega)))); go_simp)
    (apply SeqF.call (v := .agg (rwb 16 (addF b F 0))) [] 31 #[.agg (rwb 16 b), .agg (rwb 16 fun j => F (16 * 0 + j))]; (focus (first | rfl | (go_simp; done) | (simp [Region.wanted, yielded]; done))); (focus (intro w; kernel_rfl)); (focus (exact fun γ' W hg hI => (against_any _ _ W).mono (by rintro e W' ⟨rfl, hb⟩; exact ⟨rfl, hI.below hb⟩))); go_simp)
    (apply SeqF.store [0] 0 B (.cells (rwb 16 b) 28 (0, 0)) rfl (by simp) (fun _ => .cells (rwb 16 (addF b F 0)) 28 (0, 0)); (focus (exact fun _ _ => rfl)); (focus (first | rfl | (go_simp; done) | (simp [Region.wanted, yielded]; done))); (focus (exact fun γ' W hg hI hW => ⟨_, exec_store rfl rfl rfl (run_store_rwb rowBlock hW), only_setRow hW⟩)); go_simp)
    apply SeqF.done
    intro w1 hI1
    have HB1 : Hid (w1.heap[B]? = some (.cells (rwb 16 (stF F b 0)) 28 (0, 0))) := Lib.hid (hI1.here 0 B _ (Gh.set_here _ _ _)).1
    have HR1 := Lib.hid ((hI1.far (B + 1) (lt_of_heap HR0.out) (by omega)).trans HR0.out)
    have HC1 := Lib.hid ((hI1.far C (lt_of_heap HC0.out) (by omega)).trans HC0.out)
    have HL1 := Lib.hid (hI1.belowS HL0.out HL0.out.size (by rintro g rfl; omega))
    clear hI1 HB0 HR0 HC0 HL0 HI0 HCF HC
    go_simp
    go_wp2_with fail
    go_loopw [5] (fun i wr => ∃ R : Nat, 1 ≤ R ∧ R ≤ 11 ∧ i = .int .i64 R ∧ Hid (wr.heap[B]? = some (.cells (rwb 16 (stF F b (R - 1))) 28 (0, 0))) ∧ Hid (wr.heap[B + 1]? = some (.cells (rwb 16 fun _ => 0) 28 (0, 0))) ∧ Hid (wr.heap[C]? = some (.cells (rwb 688 (cphF F)) 43 (0, 0))) ∧ Hid (Below w.heap.size w wr)) (fun i _ => 11 - (intOf i).toNat)
    case atStart => exact ⟨1, by omega, by omega, rfl, HB1, HR1, HC1, HL1⟩
    case round =>
      clear HB1 HR1 HC1 HL1
      obtain ⟨R, hR1, hr, rfl, HB, HR, HC, HL⟩ := hrel
      obtain ⟨r, hRr⟩ : ∃ r, R - 1 = r := ⟨_, rfl⟩
      rw [hRr] at HB
      have HRr : Hid (R = r + 1) := Lib.hid (by omega)
      clear hRr
      by_cases hlt : R < 11
      · obtain ⟨S, hS⟩ : ∃ S, wr.heap.size = S := ⟨_, rfl⟩
        obtain ⟨V, hV⟩ : ∃ V, wr.alloc (.cells (rwb 16 fun _ => 0) 28) = V := ⟨_, rfl⟩
        have hlB := lt_of_heap HB.out
        have hlR := lt_of_heap HR.out
        have hlC := lt_of_heap HC.out
        obtain ⟨g, hg⟩ : ∃ g, stF F b r = g := ⟨_, rfl⟩
        have HGB : Hid (∀ j, 0 ≤ g j ∧ g j ≤ 255) := Lib.hid (fun j => by rw [← hg]; exact stF_b F b r j)
        rw [hg] at HB
        have hE : EncSt w V B C S F g (shP g 0 0) := by
          rw [← hV, ← hS]
          refine ⟨?_, ?_, ?_, ?_, ?_, by omega, by omega, hB⟩
          · rw [heap_alloc_if, if_neg (by omega)]; exact HB.out
          · rw [heap_alloc_if, if_neg (by omega)]; exact HR.out
          · rw [heap_alloc_if, if_neg (by omega)]; exact HC.out
          · rw [heap_alloc_last, rwb_congr (f := shP g 0 0) (g := fun _ => 0) (fun j _ => if_neg (by omega))]
          · exact Eq.mp (by rw [hB]) (HL.out.alloc (by omega) (.cells (rwb 16 fun _ => 0) 28))
        have HG := Lib.hid hg
        have hri : (R : Int) ≤ 10 := by omega
        have hr0 : (0 : Int) ≤ (R : Int) := by omega
        clear HB HR HC HL hlB hlR hlC hg
        go_wp2_with fail
        rw [zeros16, hV]
        clear hV hS
        go_loopw [26] (fun i wr => ∃ ρ : Nat, ρ ≤ 4 ∧ i = .int .i64 ρ ∧ EncSt w wr B C S F g (shP g ρ 0)) (fun i _ => 4 - (intOf i).toNat)
        case atStart => exact ⟨0, by omega, rfl, hE⟩
        case round =>
          clear hE
          obtain ⟨ρ, hρ, rfl, hE⟩ := hrel
          by_cases hρ4 : ρ < 4
          · have hρi : (ρ : Int) < 4 := by omega
            have hρ0 : (0 : Int) ≤ (ρ : Int) := by omega
            go_wp2_with fail
            go_loopw [29] (fun i wr => ∃ c : Nat, c ≤ 4 ∧ i = .int .i64 c ∧ EncSt w wr B C S F g (shP g ρ c)) (fun i _ => 4 - (intOf i).toNat)
            case atStart => exact ⟨0, by omega, rfl, hE⟩
            case round =>
              clear hE
              obtain ⟨c, hc, rfl, hE⟩ := hrel
              by_cases hc4 : c < 4
              · have hci : (c : Int) < 4 := by omega
                have hc0 : (0 : Int) ≤ (c : Int) := by omega
                obtain ⟨p1, hp1⟩ : ∃ p, 4 * (c % 4) + ρ = p := ⟨_, rfl⟩
                obtain ⟨p2, hp2⟩ : ∃ p, 4 * ((c + ρ) % 4) + ρ = p := ⟨_, rfl⟩
                obtain ⟨y, hy⟩ := Int.eq_ofNat_of_zero_le (HGB.out p2).1
                have hyl : y < 256 := by have := HGB.out p2; omega
                have hyi : (y : Int) < 256 := by omega
                have hP1 := fun w => place_any ρ c w hρ4 (by omega)
                have hP2 := fun w => place_any ρ (c + ρ) w hρ4 (by omega)
                rw [hp1] at hP1
                rw [hp2] at hP2
                have h1i : (p1 : Int) < 16 := by omega
                have h2i : (p2 : Int) < 16 := by omega
                have h1l : p1 < 16 := by omega
                have h2l : p2 < 16 := by omega
                have hwa : IntKind.i64.wrap ((c : Int) + (ρ : Int)) = (c : Int) + (ρ : Int) := IntWalk.i64_in _ (by omega)
                have HST := Lib.hid (shP_step (b := g) hρ4 hc4 hp1 hp2 hy)
                have HY := Lib.hid hy
                have HP1 := Lib.hid hP1
                have HP2 := Lib.hid hP2
                clear hp1 hp2 hy hP1 hP2
                go_wp2_with fail
                apply wp_region_eff _ _ hE.inv (hm := by kernel_rfl)
                case h =>
                  (apply SeqF.pure; (focus (first | rfl | (go_simp; done) | (simp [Region.wanted, yielded]; done))); (focus (intro w; go_simp; with_reducible rfl)); go_simp)
                  (apply SeqF.pure; (focus (first | rfl | (go_simp; done) | (simp [Region.wanted, yielded]; done))); (focus (intro w; go_simp; with_reducible rfl)); go_simp)
                  apply SeqF.call (v := .int .i64 (p1 : Nat)) [] 32 #[.int .i64 ρ, .int .i64 c]
                  · (first | rfl | (go_simp; done) | (simp [Region.wanted, yielded]; done))
                  · intro w; kernel_rfl
                  · exact fun γ' W hg hI => (HP1.out W).mono (by rintro e W' ⟨rfl, rfl⟩; exact ⟨rfl, hI⟩)
                  go_simp
                  (apply SeqF.pure; (focus (first | rfl | (go_simp; done) | (simp [Region.wanted, yielded]; done))); (focus (intro w; go_simp; with_reducible rfl)); go_simp)
                  (apply SeqF.pure; (focus (first | rfl | (go_simp; done) | (simp [Region.wanted, yielded]; done))); (focus (intro w; go_simp; with_reducible rfl)); go_simp)
                  (apply SeqF.pure; (focus (first | rfl | (go_simp; done) | (simp [Region.wanted, yielded]; done))); (focus (intro w; go_simp; with_reducible rfl)); go_simp)
                  (apply SeqF.pure; (focus (first | rfl | (go_simp; done) | (simp [Region.wanted, yielded]; done))); (focus (intro w; go_simp; with_reducible rfl)); go_simp)
                  (apply SeqF.pure; (focus (first | rfl | (go_simp; done) | (simp [Region.wanted, yielded]; done))); (focus (intro w; go_simp; with_reducible rfl)); go_simp)
                  apply SeqF.call (v := .int .i64 (p2 : Nat)) [] 32 #[.int .i64 ρ, .int .i64 ((c + ρ : Nat) : Int)]
                  · (first | rfl | (go_simp; done) | (simp [Region.wanted, yielded]; done))
                  · intro w; kernel_rfl
                  · exact fun γ' W hg hI => (HP2.out W).mono (by rintro e W' ⟨rfl, rfl⟩; exact ⟨rfl, hI⟩)
                  go_simp
                  (apply SeqF.pure; (focus (first | rfl | (go_simp; done) | (simp [Region.wanted, yielded]; done))); (focus (intro w; go_simp; with_reducible rfl)); go_simp)
                  apply SeqF.read (v := .int .u8 (y : Nat)) []
                  · (first | rfl | (go_simp; done) | (simp [Region.wanted, yielded]; done))
                  · intro γ' W hg hI
                    have x0 := hE.cellB hI h2l
                    rw [HY.out] at x0
                    go_simp
                  go_simp
                  (apply SeqF.pure; (focus (first | rfl | (go_simp; done) | (simp [Region.wanted, yielded]; done))); (focus (intro w; go_simp; with_reducible rfl)); go_simp)
                  (apply SeqF.pure; (focus (first | rfl | (go_simp; done) | (simp [Region.wanted, yielded]; done))); (focus (intro w; go_simp; with_reducible rfl)); go_simp)
                  (apply SeqF.pure; (focus (first | rfl | (go_simp; done) | (simp [Region.wanted, yielded]; done))); (focus (intro w; go_simp; with_reducible rfl)); go_simp)
                  apply SeqF.read (v := .int .u8 (subI y)) []
                  · (first | rfl | (go_simp; done) | (simp [Region.wanted, yielded]; done))
                  · intro γ' W hg hI
                    have x0 := hE.cellC hI hyl
                    go_simp
                  go_simp
                  (apply SeqF.pure; (focus (first | rfl | (go_simp; done) | (simp [Region.wanted, yielded]; done))); (focus (intro w; go_simp; with_reducible rfl)); go_simp)
                  apply SeqF.store [0] 0 S (.cells (rwb 16 (shP g ρ c)) 28 (0, 0)) rfl (by simp) (fun _ => .cells (rwb 16 (shP g ρ (c + 1))) 28 (0, 0))
                  · exact fun _ _ => rfl
                  · (first | rfl | (go_simp; done) | (simp [Region.wanted, yielded]; done))
                  · exact fun γ' W hg hI hW => exec_stc rfl rfl rfl h1l HST.out hW
                  go_simp
                  apply SeqF.done
                  intro w9 hI9
                  have hE9 := hE.next hI9 (Gh.set_here _ _ _)
                  clear hI9 hE
                  go_simp
                  go_wp2_with fail
                  go_roundw
                  case rel =>
                    first
                      | exact ⟨c + 1, by omega, by go_num, hE9⟩
                      | ((repeat apply Exists.intro); refine ⟨?_, rfl⟩; exact ⟨c + 1, by omega, by go_num, hE9⟩)
                  case measure => first | (simp [intOf]; done) | (simp [intOf]; omega)
                case hl => rfl
                case ho => kernel_rfl
              · obtain rfl : c = 4 := by omega
                go_wp2_with fail
                go_roundw
                case rel =>
                  first
                    | exact ⟨ρ + 1, by omega, by go_num, hE.congr shP_row⟩
                    | ((repeat apply Exists.intro); refine ⟨?_, rfl⟩; exact ⟨ρ + 1, by omega, by go_num, hE.congr shP_row⟩)
                case measure => first | (simp [intOf]; done) | (simp [intOf]; omega)
          · obtain rfl : ρ = 4 := by omega
            have hE2 := hE.congr shP_all
            clear hE
            obtain ⟨h, hh⟩ : ∃ h, shF g = h := ⟨_, rfl⟩
            have HHB : Hid (∀ j, 0 ≤ h j ∧ h j ≤ 255) := Lib.hid (fun j => by rw [← hh]; exact shF_b HGB.out j)
            rw [hh] at hE2
            have HH := Lib.hid hh
            clear hh
            by_cases hr10 : R < 10
            · have hr10i : (R : Int) < 10 := by omega
              have hE3 := hE2.congr (s' := mixQ h 0) (fun j _ => (if_neg (by omega)).symm)
              clear hE2
              go_wp2_with fail
              go_loopw [9] (fun i wr => ∃ m : Nat, m ≤ 16 ∧ Hid (m % 4 = 0) ∧ i = .int .i64 m ∧ EncSt w wr B C S F g (mixQ h m)) (fun i _ => 16 - (intOf i).toNat)
              case atStart => exact ⟨0, by omega, Lib.hid (by omega), rfl, hE3⟩
              case round =>
                clear hE3
                obtain ⟨m, hm, HM4, rfl, hE0⟩ := hrel
                by_cases hm16 : m < 16
                · have hmi : (m : Int) < 16 := by omega
                  have hm0 : (0 : Int) ≤ (m : Int) := by omega
                  have hb0 : m < 16 := hm16
                  have hb1 : m + 1 < 16 := by have := HM4.out; omega
                  have hb2 : m + 2 < 16 := by have := HM4.out; omega
                  have hb3 : m + 3 < 16 := by have := HM4.out; omega
                  have hi1 : (m : Int) + 1 < 16 := by omega
                  have hi2 : (m : Int) + 2 < 16 := by omega
                  have hi3 : (m : Int) + 3 < 16 := by omega
                  have hj1 : 0 ≤ (m : Int) + 1 := by omega
                  have hj2 : 0 ≤ (m : Int) + 2 := by omega
                  have hj3 : 0 ≤ (m : Int) + 3 := by omega
                  have hn1 : ((m : Int) + 1).toNat = m + 1 := by omega
                  have hn2 : ((m : Int) + 2).toNat = m + 2 := by omega
                  have hn3 : ((m : Int) + 3).toNat = m + 3 := by omega
                  obtain ⟨v0, hv0⟩ : ∃ v, h m = v := ⟨_, rfl⟩
                  obtain ⟨v1, hv1⟩ : ∃ v, h (m + 1) = v := ⟨_, rfl⟩
                  obtain ⟨v2, hv2⟩ : ∃ v, h (m + 2) = v := ⟨_, rfl⟩
                  obtain ⟨v3, hv3⟩ : ∃ v, h (m + 3) = v := ⟨_, rfl⟩
                  obtain ⟨q0, hy0⟩ := Int.eq_ofNat_of_zero_le (xr_b v0 v1).1
                  obtain ⟨q1, hy1⟩ := Int.eq_ofNat_of_zero_le (xr_b v1 v2).1
                  obtain ⟨q2, hy2⟩ := Int.eq_ofNat_of_zero_le (xr_b v2 v3).1
                  obtain ⟨q3, hy3⟩ := Int.eq_ofNat_of_zero_le (xr_b v3 v0).1
                  have hq0 : q0 < 256 := by have := xr_b v0 v1; omega
                  have hq1 : q1 < 256 := by have := xr_b v1 v2; omega
                  have hq2 : q2 < 256 := by have := xr_b v2 v3; omega
                  have hq3 : q3 < 256 := by have := xr_b v3 v0; omega
                  obtain ⟨al, hal⟩ : ∃ al, xr (xr (xr v0 v1) v2) v3 = al := ⟨_, rfl⟩
                  have hz0 := (mixF_at (k := 0) HM4.out (by omega) hv0 hv1 hv2 hv3 hal hv0 hv1 hy0).symm
                  have hz1 := (mixF_at (k := 1) HM4.out (by omega) hv0 hv1 hv2 hv3 hal hv1 hv2 hy1).symm
                  have hz2 := (mixF_at (k := 2) HM4.out (by omega) hv0 hv1 hv2 hv3 hal hv2 hv3 hy2).symm
                  have hz3 := (mixF_at (k := 3) HM4.out (by omega) hv0 hv1 hv2 hv3 hal hv3 hv0 hy3).symm
                  have HM0 := Lib.hid hz0
                  have HM1 := Lib.hid hz1
                  have HM2 := Lib.hid hz2
                  have HM3 := Lib.hid hz3
                  have HV0 := Lib.hid hv0
                  have HV1 := Lib.hid hv1
                  have HV2 := Lib.hid hv2
                  have HV3 := Lib.hid hv3
                  have x0 := mixQ_far hE0.hS hb0 (by omega) hv0
                  have x1 := mixQ_far hE0.hS hb1 (by omega) hv1
                  have x2_ := mixQ_far hE0.hS hb2 (by omega) hv2
                  have x3 := mixQ_far hE0.hS hb3 (by omega) hv3
                  clear hz0 hz1 hz2 hz3 hv0 hv1 hv2 hv3
                  have hd0 : bits .xor .u8 v0 v1 = (q0 : Int) := hy0
                  have hd1 : bits .xor .u8 v1 v2 = (q1 : Int) := hy1
                  have hd2 : bits .xor .u8 v2 v3 = (q2 : Int) := hy2
                  have hd3 : bits .xor .u8 v3 v0 = (q3 : Int) := hy3
                  have hdl : bits .xor .u8 (bits .xor .u8 (q0 : Int) v2) v3 = al := by rw [← hd0]; exact hal
                  clear hy0 hy1 hy2 hy3 hal
                  go_wp2_with fail
                  go_region
                  go_wp2_with fail
                  clear x0 x1 x2_ x3
                  have hE0 := hE0.drew
                  have hw1 : IntKind.i64.wrap ((m : Int) + 1) = (m : Int) + 1 := IntWalk.i64_in _ (by omega)
                  have hw2 : IntKind.i64.wrap ((m : Int) + 2) = (m : Int) + 2 := IntWalk.i64_in _ (by omega)
                  have hw3 : IntKind.i64.wrap ((m : Int) + 3) = (m : Int) + 3 := IntWalk.i64_in _ (by omega)
                  apply wp_region_eff _ _ hE0.inv (hm := by kernel_rfl)
                  case h =>
                    (apply SeqF.pure; (focus (first | rfl | (go_simp; done) | (simp [Region.wanted, yielded]; done))); (focus (intro w; go_simp; with_reducible rfl)); go_simp)
                    (apply SeqF.pure; (focus (first | rfl | (go_simp; done) | (simp [Region.wanted, yielded]; done))); (focus (intro w; go_simp; with_reducible rfl)); go_simp)
                    apply SeqF.read (v := .int .u8 v0) [0]
                    · (first | rfl | (go_simp; done) | (simp [Region.wanted, yielded]; done))
                    · intro γ' W hg hI
                      have x0 := mixQ_at (hI.here 0 S _ ((hg 0 (by simp)).trans rfl)).1 hb0 HV0.out
                      go_simp
                    go_simp
                    (apply SeqF.pure; (focus (first | rfl | (go_simp; done) | (simp [Region.wanted, yielded]; done))); (focus (intro w; go_simp; with_reducible rfl)); go_simp)
                    (apply SeqF.pure; (focus (first | rfl | (go_simp; done) | (simp [Region.wanted, yielded]; done))); (focus (intro w; go_simp; with_reducible rfl)); go_simp)
                    (apply SeqF.pure; (focus (first | rfl | (go_simp; done) | (simp [Region.wanted, yielded]; done))); (focus (intro w; go_simp; with_reducible rfl)); go_simp)
                    (apply SeqF.pure; (focus (first | rfl | (go_simp; done) | (simp [Region.wanted, yielded]; done))); (focus (intro w; go_simp; with_reducible rfl)); go_simp)
                    apply SeqF.call (v := .int .u8 ((x2 q0 : Nat) : Int)) [] 20 #[.int .u8 (q0 : Nat)]
                    · (first | rfl | (go_simp; done) | (simp [Region.wanted, yielded]; done))
                    · intro w; kernel_rfl
                    · exact fun γ' W hg hI => (twice_any q0 W hq0).mono (by rintro e W' ⟨rfl, rfl⟩; exact ⟨rfl, hI⟩)
                    go_simp
                    (apply SeqF.pure; (focus (first | rfl | (go_simp; done) | (simp [Region.wanted, yielded]; done))); (focus (intro w; go_simp; with_reducible rfl)); go_simp)
                    (apply SeqF.pure; (focus (first | rfl | (go_simp; done) | (simp [Region.wanted, yielded]; done))); (focus (intro w; go_simp; with_reducible rfl)); go_simp)
                    (apply SeqF.pure; (focus (first | rfl | (go_simp; done) | (simp [Region.wanted, yielded]; done))); (focus (intro w; go_simp; with_reducible rfl)); go_simp)
                    apply SeqF.store [0] 0 S (.cells (rwb 16 (mixQ h m)) 28 (0, 0)) rfl (by simp) (fun _ => .cells (rwb 16 (mixQ h (m + 1))) 28 (0, 0))
                    · exact fun _ _ => rfl
                    · (first | rfl | (go_simp; done) | (simp [Region.wanted, yielded]; done))
                    · exact fun γ' W hg hI hW => exec_stc rfl rfl rfl hb0 (fun j _ => mixQ_step (k := 0) HM0.out j) hW
                    go_simp
                    apply SeqF.done
                    intro w9 hI9
                    have hE1 := hE0.next hI9 (Gh.set_here _ _ _)
                    clear hI9 hE0
                    go_simp
                    go_wp2_with fail
                    apply wp_region_eff _ _ hE1.inv (hm := by kernel_rfl)
                    case h =>
                      (apply SeqF.pure; (focus (first | rfl | (go_simp; done) | (simp [Region.wanted, yielded]; done))); (focus (intro w; go_simp; with_reducible rfl)); go_simp)
                      (apply SeqF.pure; (focus (first | rfl | (go_simp; done) | (simp [Region.wanted, yielded]; done))); (focus (intro w; go_simp; with_reducible rfl)); go_simp)
                      (apply SeqF.pure; (focus (first | rfl | (go_simp; done) | (simp [Region.wanted, yielded]; done))); (focus (intro w; go_simp; with_reducible rfl)); go_simp)
                      apply SeqF.read (v := .int .u8 v1) [0]
                      · (first | rfl | (go_simp; done) | (simp [Region.wanted, yielded]; done))
                      · intro γ' W hg hI
                        have x0 := mixQ_at (hI.here 0 S _ ((hg 0 (by simp)).trans rfl)).1 hb1 HV1.out
                        go_simp
                      go_simp
                      (apply SeqF.pure; (focus (first | rfl | (go_simp; done) | (simp [Region.wanted, yielded]; done))); (focus (intro w; go_simp; with_reducible rfl)); go_simp)
                      (apply SeqF.pure; (focus (first | rfl | (go_simp; done) | (simp [Region.wanted, yielded]; done))); (focus (intro w; go_simp; with_reducible rfl)); go_simp)
                      (apply SeqF.pure; (focus (first | rfl | (go_simp; done) | (simp [Region.wanted, yielded]; done))); (focus (intro w; go_simp; with_reducible rfl)); go_simp)
                      (apply SeqF.pure; (focus (first | rfl | (go_simp; done) | (simp [Region.wanted, yielded]; done))); (focus (intro w; go_simp; with_reducible rfl)); go_simp)
                      apply SeqF.call (v := .int .u8 ((x2 q1 : Nat) : Int)) [] 20 #[.int .u8 (q1 : Nat)]
                      · (first | rfl | (go_simp; done) | (simp [Region.wanted, yielded]; done))
                      · intro w; kernel_rfl
                      · exact fun γ' W hg hI => (twice_any q1 W hq1).mono (by rintro e W' ⟨rfl, rfl⟩; exact ⟨rfl, hI⟩)
                      go_simp
                      (apply SeqF.pure; (focus (first | rfl | (go_simp; done) | (simp [Region.wanted, yielded]; done))); (focus (intro w; go_simp; with_reducible rfl)); go_simp)
                      (apply SeqF.pure; (focus (first | rfl | (go_simp; done) | (simp [Region.wanted, yielded]; done))); (focus (intro w; go_simp; with_reducible rfl)); go_simp)
                      (apply SeqF.pure; (focus (first | rfl | (go_simp; done) | (simp [Region.wanted, yielded]; done))); (focus (intro w; go_simp; with_reducible rfl)); go_simp)
                      apply SeqF.store [0] 0 S (.cells (rwb 16 (mixQ h (m + 1))) 28 (0, 0)) rfl (by simp) (fun _ => .cells (rwb 16 (mixQ h (m + 2))) 28 (0, 0))
                      · exact fun _ _ => rfl
                      · (first | rfl | (go_simp; done) | (simp [Region.wanted, yielded]; done))
                      · exact fun γ' W hg hI hW => exec_stc rfl rfl rfl hb1 (fun j _ => mixQ_step (k := 1) HM1.out j) hW
                      go_simp
                      apply SeqF.done
                      intro w9 hI9
                      have hE2 := hE1.next hI9 (Gh.set_here _ _ _)
                      clear hI9 hE1
                      go_simp
                      go_wp2_with fail
                      apply wp_region_eff _ _ hE2.inv (hm := by kernel_rfl)
                      case h =>
                        (apply SeqF.pure; (focus (first | rfl | (go_simp; done) | (simp [Region.wanted, yielded]; done))); (focus (intro w; go_simp; with_reducible rfl)); go_simp)
                        (apply SeqF.pure; (focus (first | rfl | (go_simp; done) | (simp [Region.wanted, yielded]; done))); (focus (intro w; go_simp; with_reducible rfl)); go_simp)
                        (apply SeqF.pure; (focus (first | rfl | (go_simp; done) | (simp [Region.wanted, yielded]; done))); (focus (intro w; go_simp; with_reducible rfl)); go_simp)
                        apply SeqF.read (v := .int .u8 v2) [0]
                        · (first | rfl | (go_simp; done) | (simp [Region.wanted, yielded]; done))
                        · intro γ' W hg hI
                          have x0 := mixQ_at (hI.here 0 S _ ((hg 0 (by simp)).trans rfl)).1 hb2 HV2.out
                          go_simp
                        go_simp
                        (apply SeqF.pure; (focus (first | rfl | (go_simp; done) | (simp [Region.wanted, yielded]; done))); (focus (intro w; go_simp; with_reducible rfl)); go_simp)
                        (apply SeqF.pure; (focus (first | rfl | (go_simp; done) | (simp [Region.wanted, yielded]; done))); (focus (intro w; go_simp; with_reducible rfl)); go_simp)
                        (apply SeqF.pure; (focus (first | rfl | (go_simp; done) | (simp [Region.wanted, yielded]; done))); (focus (intro w; go_simp; with_reducible rfl)); go_simp)
                        (apply SeqF.pure; (focus (first | rfl | (go_simp; done) | (simp [Region.wanted, yielded]; done))); (focus (intro w; go_simp; with_reducible rfl)); go_simp)
                        apply SeqF.call (v := .int .u8 ((x2 q2 : Nat) : Int)) [] 20 #[.int .u8 (q2 : Nat)]
                        · (first | rfl | (go_simp; done) | (simp [Region.wanted, yielded]; done))
                        · intro w; kernel_rfl
                        · exact fun γ' W hg hI => (twice_any q2 W hq2).mono (by rintro e W' ⟨rfl, rfl⟩; exact ⟨rfl, hI⟩)
                        go_simp
                        (apply SeqF.pure; (focus (first | rfl | (go_simp; done) | (simp [Region.wanted, yielded]; done))); (focus (intro w; go_simp; with_reducible rfl)); go_simp)
                        (apply SeqF.pure; (focus (first | rfl | (go_simp; done) | (simp [Region.wanted, yielded]; done))); (focus (intro w; go_simp; with_reducible rfl)); go_simp)
                        (apply SeqF.pure; (focus (first | rfl | (go_simp; done) | (simp [Region.wanted, yielded]; done))); (focus (intro w; go_simp; with_reducible rfl)); go_simp)
                        apply SeqF.store [0] 0 S (.cells (rwb 16 (mixQ h (m + 2))) 28 (0, 0)) rfl (by simp) (fun _ => .cells (rwb 16 (mixQ h (m + 3))) 28 (0, 0))
                        · exact fun _ _ => rfl
                        · (first | rfl | (go_simp; done) | (simp [Region.wanted, yielded]; done))
                        · exact fun γ' W hg hI hW => exec_stc rfl rfl rfl hb2 (fun j _ => mixQ_step (k := 2) HM2.out j) hW
                        go_simp
                        apply SeqF.done
                        intro w9 hI9
                        have hE3 := hE2.next hI9 (Gh.set_here _ _ _)
                        clear hI9 hE2
                        go_simp
                        go_wp2_with fail
                        apply wp_region_eff _ _ hE3.inv (hm := by kernel_rfl)
                        case h =>
                          (apply SeqF.pure; (focus (first | rfl | (go_simp; done) | (simp [Region.wanted, yielded]; done))); (focus (intro w; go_simp; with_reducible rfl)); go_simp)
                          (apply SeqF.pure; (focus (first | rfl | (go_simp; done) | (simp [Region.wanted, yielded]; done))); (focus (intro w; go_simp; with_reducible rfl)); go_simp)
                          (apply SeqF.pure; (focus (first | rfl | (go_simp; done) | (simp [Region.wanted, yielded]; done))); (focus (intro w; go_simp; with_reducible rfl)); go_simp)
                          apply SeqF.read (v := .int .u8 v3) [0]
                          · (first | rfl | (go_simp; done) | (simp [Region.wanted, yielded]; done))
                          · intro γ' W hg hI
                            have x0 := mixQ_at (hI.here 0 S _ ((hg 0 (by simp)).trans rfl)).1 hb3 HV3.out
                            go_simp
                          go_simp
                          (apply SeqF.pure; (focus (first | rfl | (go_simp; done) | (simp [Region.wanted, yielded]; done))); (focus (intro w; go_simp; with_reducible rfl)); go_simp)
                          (apply SeqF.pure; (focus (first | rfl | (go_simp; done) | (simp [Region.wanted, yielded]; done))); (focus (intro w; go_simp; with_reducible rfl)); go_simp)
                          (apply SeqF.pure; (focus (first | rfl | (go_simp; done) | (simp [Region.wanted, yielded]; done))); (focus (intro w; go_simp; with_reducible rfl)); go_simp)
                          (apply SeqF.pure; (focus (first | rfl | (go_simp; done) | (simp [Region.wanted, yielded]; done))); (focus (intro w; go_simp; with_reducible rfl)); go_simp)
                          apply SeqF.call (v := .int .u8 ((x2 q3 : Nat) : Int)) [] 20 #[.int .u8 (q3 : Nat)]
                          · (first | rfl | (go_simp; done) | (simp [Region.wanted, yielded]; done))
                          · intro w; kernel_rfl
                          · exact fun γ' W hg hI => (twice_any q3 W hq3).mono (by rintro e W' ⟨rfl, rfl⟩; exact ⟨rfl, hI⟩)
                          go_simp
                          (apply SeqF.pure; (focus (first | rfl | (go_simp; done) | (simp [Region.wanted, yielded]; done))); (focus (intro w; go_simp; with_reducible rfl)); go_simp)
                          (apply SeqF.pure; (focus (first | rfl | (go_simp; done) | (simp [Region.wanted, yielded]; done))); (focus (intro w; go_simp; with_reducible rfl)); go_simp)
                          (apply SeqF.pure; (focus (first | rfl | (go_simp; done) | (simp [Region.wanted, yielded]; done))); (focus (intro w; go_simp; with_reducible rfl)); go_simp)
                          apply SeqF.store [0] 0 S (.cells (rwb 16 (mixQ h (m + 3))) 28 (0, 0)) rfl (by simp) (fun _ => .cells (rwb 16 (mixQ h (m + 4))) 28 (0, 0))
                          · exact fun _ _ => rfl
                          · (first | rfl | (go_simp; done) | (simp [Region.wanted, yielded]; done))
                          · exact fun γ' W hg hI hW => exec_stc rfl rfl rfl hb3 (fun j _ => mixQ_step (k := 3) HM3.out j) hW
                          go_simp
                          apply SeqF.done
                          intro w9 hI9
                          have hE4 := hE3.next hI9 (Gh.set_here _ _ _)
                          clear hI9 hE3
                          go_simp
                          go_wp2_with fail
                          go_roundw
                          case rel =>
                            first
                              | exact ⟨m + 4, by omega, Lib.hid (by have := HM4.out; omega), by go_num, hE4⟩
                              | ((repeat apply Exists.intro); refine ⟨?_, rfl⟩; exact ⟨m + 4, by omega, Lib.hid (by have := HM4.out; omega), by go_num, hE4⟩)
                          case measure => first | (simp [intOf]; done) | (simp [intOf]; omega)
                        case hl => rfl
                        case ho => kernel_rfl
                      case hl => rfl
                      case ho => kernel_rfl
                    case hl => rfl
                    case ho => kernel_rfl
                  case hl => rfl
                  case ho => kernel_rfl
                · obtain rfl : m = 16 := by omega
                  have hE4 := hE0.congr (s' := mixF h) (fun j hj => if_pos hj)
                  clear hE0
                  have hri11 : (R : Int) < 11 := by omega
                  go_wp2_with fail
                  have HI1 : Hid (Inv wr (fun q => q = B) (gh2 (some (B, .cells (rwb 16 g) 28 (0, 0))) none) wr.drew) := Lib.hid (Inv.start2 hE4.hB rfl (by rintro g o h; cases h))
                  apply wp_region_eff _ _ HI1.out (hm := by kernel_rfl)
                  case h =>
                    apply SeqF.read (v := .agg (rwb 16 (mixF h))) []
                    · (first | rfl | (go_simp; done) | (simp [Region.wanted, yielded]; done))
                    · exact fun γ' W hg hI => exec_load rfl rfl (run_load_rwb rowBlock ((hI.far S (lt_of_heap hE4.hS) (by have := hE4.lt; omega)).trans hE4.hS) (by omega) (fun j _ => by rw [Nat.zero_add]))
                    go_simp
                    (apply SeqF.pure; (focus (first | rfl | (go_simp; done) | (simp [Region.wanted, yielded]; done))); (focus (intro w; go_simp; with_reducible rfl)); go_simp)
                    (apply SeqF.pure; (focus (first | rfl | (go_simp; done) | (simp [Region.wanted, yielded]; done))); (focus (intro w; go_simp; with_reducible rfl)); go_simp)
                    (apply SeqF.pure; (focus (first | rfl | (go_simp; done) | (simp [Region.wanted, yielded]; done))); (focus (intro w; go_simp; with_reducible rfl)); go_simp)
                    (apply SeqF.pure; (focus (first | rfl | (go_simp; done) | (simp [Region.wanted, yielded]; done))); (focus (intro w; go_simp; with_reducible rfl)); go_simp)
                    (apply SeqF.pure; (focus (first | rfl | (go_simp; done) | (simp [Region.wanted, yielded]; done))); (focus (intro w; go_simp; with_reducible rfl)); go_simp)
                    apply SeqF.read (v := .agg (rwb 16 fun j => F (16 * R + j))) []
                    · (first | rfl | (go_simp; done) | (simp [Region.wanted, yielded]; done))
                    · exact fun γ' W hg hI => exec_load rfl rfl (key_row (r := R) ((hI.far C (lt_of_heap hE4.hC) (by have := hE4.lt; omega)).trans hE4.hC) (by omega))
                    go_simp
                    apply SeqF.call (v := .agg (rwb 16 (addF (mixF h) F R))) [] 31 #[.agg (rwb 16 (mixF h)), .agg (rwb 16 fun j => F (16 * R + j))]
                    · (first | rfl | (go_simp; done) | (simp [Region.wanted, yielded]; done))
                    · intro w; kernel_rfl
                    · exact fun γ' W hg hI => (against_any _ _ W).mono (by rintro e W' ⟨rfl, hb⟩; exact ⟨rfl, hI.below hb⟩)
                    go_simp
                    apply SeqF.store [0] 0 B (.cells (rwb 16 g) 28 (0, 0)) rfl (by simp) (fun _ => .cells (rwb 16 (addF (mixF h) F R)) 28 (0, 0))
                    · exact fun _ _ => rfl
                    · (first | rfl | (go_simp; done) | (simp [Region.wanted, yielded]; done))
                    · exact fun γ' W hg hI hW => ⟨_, exec_store rfl rfl rfl (run_store_rwb rowBlock hW), only_setRow hW⟩
                    go_simp
                    apply SeqF.done
                    intro w9 hI9
                    have HL9 : Hid (Below w.heap.size w w9) := Lib.hid (hI9.belowS (by rw [hB]; exact hE4.hL) (by rw [hB]; have := lt_of_heap hE4.hB; omega) (by rintro q rfl; omega))
                    have HR9 := Lib.hid ((hI9.far (B + 1) (lt_of_heap hE4.hR) (by omega)).trans hE4.hR)
                    have HC9 := Lib.hid ((hI9.far C (lt_of_heap hE4.hC) (by have := hE4.lt; omega)).trans hE4.hC)
                    have HB9 : Hid (w9.heap[B]? = some (.cells (rwb 16 (stF F b (R + 1 - 1))) 28 (0, 0))) := Lib.hid (by
                      rw [(hI9.here 0 B _ (Gh.set_here _ _ _)).1, Nat.add_sub_cancel, HRr.out]
                      show _ = some (Obj.cells (rwb 16 (addF (if r + 1 < 10 then mixF (shF (stF F b r)) else shF (stF F b r)) F (r + 1))) _ _)
                      rw [if_pos (by have := HRr.out; omega), HG.out, HH.out])
                    clear hI9
                    go_simp
                    go_wp2_with fail
                    go_roundw
                    case rel =>
                      first
                        | exact ⟨R + 1, by omega, by omega, by go_num, HB9, HR9, HC9, HL9⟩
                        | ((repeat apply Exists.intro); refine ⟨?_, rfl⟩; exact ⟨R + 1, by omega, by omega, by go_num, HB9, HR9, HC9, HL9⟩)
                    case measure => first | (simp [intOf]; done) | (simp [intOf]; omega)
                  case hl => rfl
                  case ho => kernel_rfl
            · have hr10i : ¬ (R : Int) < 10 := by omega
              have hri11 : (R : Int) < 11 := by omega
              go_wp2_with fail
              have HI1 : Hid (Inv wr (fun q => q = B) (gh2 (some (B, .cells (rwb 16 g) 28 (0, 0))) none) wr.drew) := Lib.hid (Inv.start2 hE2.hB rfl (by rintro g o h; cases h))
              apply wp_region_eff _ _ HI1.out (hm := by kernel_rfl)
              case h =>
                apply SeqF.read (v := .agg (rwb 16 h)) []
                · (first | rfl | (go_simp; done) | (simp [Region.wanted, yielded]; done))
                · exact fun γ' W hg hI => exec_load rfl rfl (run_load_rwb rowBlock ((hI.far S (lt_of_heap hE2.hS) (by have := hE2.lt; omega)).trans hE2.hS) (by omega) (fun j _ => by rw [Nat.zero_add]))
                go_simp
                (apply SeqF.pure; (focus (first | rfl | (go_simp; done) | (simp [Region.wanted, yielded]; done))); (focus (intro w; go_simp; with_reducible rfl)); go_simp)
                (apply SeqF.pure; (focus (first | rfl | (go_simp; done) | (simp [Region.wanted, yielded]; done))); (focus (intro w; go_simp; with_reducible rfl)); go_simp)
                (apply SeqF.pure; (focus (first | rfl | (go_simp; done) | (simp [Region.wanted, yielded]; done))); (focus (intro w; go_simp; with_reducible rfl)); go_simp)
                (apply SeqF.pure; (focus (first | rfl | (go_simp; done) | (simp [Region.wanted, yielded]; done))); (focus (intro w; go_simp; with_reducible rfl)); go_simp)
                (apply SeqF.pure; (focus (first | rfl | (go_simp; done) | (simp [Region.wanted, yielded]; done))); (focus (intro w; go_simp; with_reducible rfl)); go_simp)
                apply SeqF.read (v := .agg (rwb 16 fun j => F (16 * R + j))) []
                · (first | rfl | (go_simp; done) | (simp [Region.wanted, yielded]; done))
                · exact fun γ' W hg hI => exec_load rfl rfl (key_row (r := R) ((hI.far C (lt_of_heap hE2.hC) (by have := hE2.lt; omega)).trans hE2.hC) (by omega))
                go_simp
                apply SeqF.call (v := .agg (rwb 16 (addF h F R))) [] 31 #[.agg (rwb 16 h), .agg (rwb 16 fun j => F (16 * R + j))]
                · (first | rfl | (go_simp; done) | (simp [Region.wanted, yielded]; done))
                · intro w; kernel_rfl
                · exact fun γ' W hg hI => (against_any _ _ W).mono (by rintro e W' ⟨rfl, hb⟩; exact ⟨rfl, hI.below hb⟩)
                go_simp
                apply SeqF.store [0] 0 B (.cells (rwb 16 g) 28 (0, 0)) rfl (by simp) (fun _ => .cells (rwb 16 (addF h F R)) 28 (0, 0))
                · exact fun _ _ => rfl
                · (first | rfl | (go_simp; done) | (simp [Region.wanted, yielded]; done))
                · exact fun γ' W hg hI hW => ⟨_, exec_store rfl rfl rfl (run_store_rwb rowBlock hW), only_setRow hW⟩
                go_simp
                apply SeqF.done
                intro w9 hI9
                have HL9 : Hid (Below w.heap.size w w9) := Lib.hid (hI9.belowS (by rw [hB]; exact hE2.hL) (by rw [hB]; have := lt_of_heap hE2.hB; omega) (by rintro q rfl; omega))
                have HR9 := Lib.hid ((hI9.far (B + 1) (lt_of_heap hE2.hR) (by omega)).trans hE2.hR)
                have HC9 := Lib.hid ((hI9.far C (lt_of_heap hE2.hC) (by have := hE2.lt; omega)).trans hE2.hC)
                have HB9 : Hid (w9.heap[B]? = some (.cells (rwb 16 (stF F b (R + 1 - 1))) 28 (0, 0))) := Lib.hid (by
                  rw [(hI9.here 0 B _ (Gh.set_here _ _ _)).1, Nat.add_sub_cancel, HRr.out]
                  show _ = some (Obj.cells (rwb 16 (addF (if r + 1 < 10 then mixF (shF (stF F b r)) else shF (stF F b r)) F (r + 1))) _ _)
                  rw [if_neg (by have := HRr.out; omega), HG.out, HH.out])
                clear hI9
                go_simp
                go_wp2_with fail
                go_roundw
                case rel =>
                  first
                    | exact ⟨R + 1, by omega, by omega, by go_num, HB9, HR9, HC9, HL9⟩
                    | ((repeat apply Exists.intro); refine ⟨?_, rfl⟩; exact ⟨R + 1, by omega, by omega, by go_num, HB9, HR9, HC9, HL9⟩)
                case measure => first | (simp [intOf]; done) | (simp [intOf]; omega)
              case hl => rfl
              case ho => kernel_rfl
      · obtain rfl : R = 11 := by omega
        obtain rfl : r = 10 := by have := HRr.out; omega
        go_wp2_with (first | (with_reducible refine wpList_ld rowBlock rfl (.tmp 3) rfl rfl HB.out (by omega) (G := stF F b 10) (fun j _ => by rw [Nat.zero_add]) ?_) | (with_reducible refine wpList_st rowBlock rfl (.tmp 4) (.tmp 133) rfl rfl rfl HR.out ?_))
        refine bodyPost_ret (v := .agg (rwb 16 (stF F b 10))) ?_ rfl ?_
        · exact results_cell (fn := Try.f24) Try.results24 rfl (run_loadVar_rwb rowBlock (setRow_heap _ _ _ _ _ _ HR.out) (by omega) (fun j _ => by rw [Nat.zero_add]))
        · exact ⟨rfl, below_setRow HL.out (by omega) _⟩
  case hl => rfl
  case ho => kernel_rfl
end Go.Proofs.Ytppponobefljgaa
