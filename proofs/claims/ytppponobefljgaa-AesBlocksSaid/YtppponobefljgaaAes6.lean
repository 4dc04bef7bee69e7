/- What is proved: what New of package aes answers when it is called; conditions: the key is sixteen bytes. -/
import Derived.Test.YtppponobefljgaaAes5
set_option linter.unusedSimpArgs false
set_option linter.unusedVariables false
namespace Go.Proofs.Ytppponobefljgaa
open Go.RowKit
set_option maxRecDepth 100000
set_option maxHeartbeats 8000000
def xr (a b : Int) : Int := bits .xor .u8 a b
theorem xr_b (a b : Int) : 0 ≤ xr a b ∧ xr a b ≤ 255 := by
  unfold xr
  show 0 ≤ IntKind.u8.wrap _ ∧ IntKind.u8.wrap _ ≤ 255
  rw [IntKind.wrap_u8']
  omega
def sbI (x : Int) : Int := subI x.toNat
theorem subI_b {j : Nat} (h : j < 256) : 0 ≤ subI j ∧ subI j ≤ 255 := by
  have := (tab_s j h).1
  unfold subI
  omega
theorem sbI_b {x : Int} (h : 0 ≤ x ∧ x ≤ 255) : 0 ≤ sbI x ∧ sbI x ≤ 255 := subI_b (by omega)
def rcT : Nat → Nat
  | 0 => 1
  | m + 1 => x2 (rcT m)
theorem rcT_lt : ∀ m, rcT m < 256
  | 0 => by decide
  | m + 1 => x2_lt (rcT_lt m)
/-- The byte that the word ahead brings, by the word ahead's bytes. -/
def turnK (i c : Nat) (t : Nat → Int) : Int := if i % 4 = 0 then (if c = 0 then xr (sbI (t 1)) (rcT (i / 4 - 1) : Nat) else if c = 3 then sbI (t 0) else sbI (t (c + 1))) else t c
def kwF (key : Nat → Int) : Nat → Nat → Int
  | 0, j => key j
  | f + 1, j => if j < 16 then key j else xr (kwF key f (j - 16)) (turnK (j / 4) (j % 4) (fun c => kwF key f (4 * (j / 4 - 1) + c)))
/-- The words of a key, byte by byte. -/
def kw (key : Nat → Int) (j : Nat) : Int := kwF key (j / 4) j
theorem turnK_congr {i c : Nat} {t u : Nat → Int} (hc : c < 4) (h : ∀ d, d < 4 → t d = u d) : turnK i c t = turnK i c u := by
  unfold turnK
  rw [h 1 (by omega), h 0 (by omega), h c hc]
  by_cases h1 : i % 4 = 0
  · rw [if_pos h1, if_pos h1]
    by_cases h2 : c = 0
    · rw [if_pos h2, if_pos h2]
    · rw [if_neg h2, if_neg h2]
      by_cases h3 : c = 3
      · rw [if_pos h3, if_pos h3]
      · rw [if_neg h3, if_neg h3, h (c + 1) (by omega)]
  · rw [if_neg h1, if_neg h1]
theorem kwF_fuel (key : Nat → Int) : ∀ (f g j : Nat), j / 4 ≤ f → j / 4 ≤ g → kwF key f j = kwF key g j
  | 0, 0, j, _, _ => rfl
  | 0, g + 1, j, h, _ => by unfold kwF; rw [if_pos (by omega)]
  | f + 1, 0, j, _, h => by unfold kwF; rw [if_pos (by omega)]
  | f + 1, g + 1, j, h1, h2 => by
    unfold kwF
    by_cases h : j < 16
    · rw [if_pos h, if_pos h]
    · rw [if_neg h, if_neg h, kwF_fuel key f g (j - 16) (by omega) (by omega)]
      congr 1
      exact turnK_congr (by omega) (fun d hd => kwF_fuel key f g _ (by omega) (by omega))
theorem kw_low (key : Nat → Int) {j : Nat} (h : j < 16) : kw key j = key j := by
  unfold kw
  cases j / 4 with
  | zero => rfl
  | succ f => unfold kwF; rw [if_pos h]
theorem kw_high (key : Nat → Int) {j : Nat} (h : 16 ≤ j) : kw key j = xr (kw key (j - 16)) (turnK (j / 4) (j % 4) (fun c => kw key (4 * (j / 4 - 1) + c))) := by
  have e : kw key j = kwF key (j / 4) j := rfl
  rw [e]
  obtain ⟨f, hf⟩ : ∃ f, j / 4 = f + 1 := ⟨j / 4 - 1, by omega⟩
  rw [hf]
  conv => lhs; unfold kwF
  rw [if_neg (by omega), hf]
  unfold kw
  rw [kwF_fuel key f ((j - 16) / 4) (j - 16) (by omega) (Nat.le_refl _)]
  congr 1
  exact turnK_congr (by omega) (fun d hd => kwF_fuel key _ _ _ (by omega) (by omega))
theorem kw_b (key : Nat → Int) (hk : ∀ j, j < 16 → 0 ≤ key j ∧ key j ≤ 255) (j : Nat) : 0 ≤ kw key j ∧ kw key j ≤ 255 := by
  rcases Nat.lt_or_ge j 16 with h | h
  · rw [kw_low key h]; exact hk j h
  · rw [kw_high key h]; exact xr_b _ _
/-- A cipher's block. -/
def cphF (F : Nat → Int) (j : Nat) : Int := if j < 176 then F j else if j < 432 then subI (j - 176) else unsI (j - 432)
theorem zero43 : ∀ w, (zeroValue 43).run Try.prog w = .ok (.agg (rwb 688 fun _ => 0)) w := (zero_of_info (n := 688) (by kernel_rfl)).1
theorem zero51 : ∀ w, (zeroValue 51).run Try.prog w = .ok (.agg (rwb 176 fun _ => 0)) w := (zero_of_info (n := 176) (by kernel_rfl)).1
theorem rowWords : RowT 51 176 := ⟨⟨_, Try.underlying51, rfl⟩, by kernel_rfl⟩
theorem ovr_step (H : Nat → Int) (z : Int) (o m j : Nat) : ovr (fun j => if j < o then H j else z) o m (fun j => H (o + j)) j = if j < o + m then H j else z := by
  show (if o ≤ j ∧ j < o + m then H (o + (j - o)) else (if j < o then H j else z)) = _
  rcases (by omega : j < o ∨ (o ≤ j ∧ j < o + m) ∨ o + m ≤ j) with h | h | h
  · rw [if_neg (by omega), if_pos h, if_pos (by omega)]
  · rw [if_pos h, if_pos (by omega), show o + (j - o) = j by omega]
  · rw [if_neg (by omega), if_neg (by omega), if_neg (by omega)]
def G4 (a b c d : Int) (j : Nat) : Int := if j = 0 then a else if j = 1 then b else if j = 2 then c else d
theorem cph_step (key : Nat → Int) (m o : Nat) (ho : o = 4 * m) (hm : m < 44) (G : Nat → Int) (hG : ∀ c, c < 4 → G c = kw key (4 * m + c)) (j : Nat) : ovr (cphF fun j => if j < 4 * m then kw key j else 0) o 4 G j = cphF (fun j => if j < 4 * (m + 1) then kw key j else 0) j := by
  subst ho
  unfold ovr cphF
  by_cases h1 : 4 * m ≤ j ∧ j < 4 * m + 4
  · rw [if_pos h1, hG _ (by omega), if_pos (show j < 176 by omega)]
    show _ = if j < 4 * (m + 1) then kw key j else 0
    rw [if_pos (by omega), show 4 * m + (j - 4 * m) = j by omega]
  · rw [if_neg h1]
    by_cases h2 : j < 176
    · rw [if_pos h2, if_pos h2]
      show (if j < 4 * m then kw key j else 0) = if j < 4 * (m + 1) then kw key j else 0
      by_cases h3 : j < 4 * m
      · rw [if_pos h3, if_pos (by omega)]
      · rw [if_neg h3, if_neg (by omega)]
    · rw [if_neg h2, if_neg h2]
theorem run_index_word {w : World} (F : Nat → Int) {i : Nat} (h : i < 44) : (Instr.index 51 (.agg (rwb 176 F)) (.int .i64 i)).run Try.prog w = .ok (.agg #[.int .u8 (F (4 * i)), .int .u8 (F (4 * i + 1)), .int .u8 (F (4 * i + 2)), .int .u8 (F (4 * i + 3))]) w := by
  have hi : (i : Int) < 44 := by omega
  obtain ⟨ti, ht, h1⟩ : ∃ ti, Try.prog.info? 50 = some ti ∧ ti.size = 4 := by
    obtain ⟨i, h, h2⟩ := Option.map_eq_some_iff.1 (show (Try.prog.info? 50).map (fun i => i.size) = some 4 by kernel_rfl)
    exact ⟨i, h, h2⟩
  have ha : (isAgg 50).run Try.prog w = .ok true w := by simp [isAgg, run_underlying Try.underlying50]
  have hx : (rwb 176 F).extract (i * 4) (i * 4 + 4) = #[.int .u8 (F (4 * i)), .int .u8 (F (4 * i + 1)), .int .u8 (F (4 * i + 2)), .int .u8 (F (4 * i + 3))] := by
    apply Array.ext_getElem?
    intro j
    rcases (by omega : j = 0 ∨ j = 1 ∨ j = 2 ∨ j = 3 ∨ 4 ≤ j) with rfl | rfl | rfl | rfl | hj
    · rw [Array.getElem?_extract_of_lt (by rw [rwb_size]; omega), ← Array.getElem?_eq_getElem, rwb_get _ (by omega), Nat.mul_comm]; rfl
    · rw [Array.getElem?_extract_of_lt (by rw [rwb_size]; omega), ← Array.getElem?_eq_getElem, rwb_get _ (by omega), Nat.mul_comm]; rfl
    · rw [Array.getElem?_extract_of_lt (by rw [rwb_size]; omega), ← Array.getElem?_eq_getElem, rwb_get _ (by omega), Nat.mul_comm]; rfl
    · rw [Array.getElem?_extract_of_lt (by rw [rwb_size]; omega), ← Array.getElem?_eq_getElem, rwb_get _ (by omega), Nat.mul_comm]; rfl
    · rw [Array.getElem?_eq_none (by simp [rwb_size]; omega), Array.getElem?_eq_none (by simp; omega)]
  simp [Instr.index, part, asIntOf, run_underlying Try.underlying51, sizeOf, typeInfo, ht, h1, hi, ha, hx, h]
theorem new_any (key : Nat → Int) (hk : ∀ j, j < 16 → 0 ≤ key j ∧ key j ≤ 255) (w : World) : Calls Try.prog 23 #[.agg (rwb 16 key)] w fun e w' => (∃ C, e = .returned (.pointer (some ⟨C, 0, none⟩)) ∧ w.heap.size ≤ C ∧ w'.heap[C]? = some (.cells (rwb 688 (cphF (kw key))) 43 (0, 0))) ∧ Below w.heap.size w w' := by
  have hz1 := zero43
  have HKB := Lib.hid (kw_b key hk)
  go_enter Try.func23, Try.ntmps23
  go_wp2_with fail
  refine (boxes_any _).mono ?_
  rintro e w1 ⟨rfl, hb⟩
  obtain ⟨N, hN⟩ : ∃ N, w.heap.size = N := ⟨_, rfl⟩
  have hsz := hb.size
  simp only [World.size_alloc, hN] at hsz
  have HK1 : Hid (w1.heap[N]? = some (.cells (rwb 16 key) 28 (0, 0))) := Lib.hid ((hb.block N (by simp [hN]; omega)).trans (by rw [← hN]; (simp only [heap_setRow_if, heap_alloc_if, heap_setCell_if, World.size_alloc, size_setRow, World.size_setCell]; simp)))
  have HC1 : Hid (w1.heap[N + 1]? = some (.cells (rwb 688 fun _ => 0) 43 (0, 0))) := Lib.hid ((hb.block (N + 1) (by simp [hN])).trans (by rw [← hN]; (simp only [heap_setRow_if, heap_alloc_if, heap_setCell_if, World.size_alloc, size_setRow, World.size_setCell]; simp)))
  have HL1 : Hid (Below w.heap.size w w1) := Lib.hid (bl_then (show Below w.heap.size w ((w.alloc (.cells (rwb 16 key) 28)).alloc (.cells (rwb 688 fun _ => 0) 43)) by (repeat' (first | (with_reducible exact Below.refl _ _) | (with_reducible assumption) | (with_reducible refine Below.alloc ?_ ?_ _) | (with_reducible refine below_setRow ?_ ?_ _) | (with_reducible refine bl_drew ?_) | (with_reducible refine bl_drewN ?_ _) | (with_reducible refine Below.setCell ?_ ?_ _) | (with_reducible refine bl_then ?_ ?_ hb) | (with_reducible refine bl_then ?_ ?_ hb1) | (with_reducible refine bl_then ?_ ?_ hb2) | (with_reducible refine bl_then ?_ ?_ hb3) | (with_reducible refine bl_then ?_ ?_ hb4) | (with_reducible refine bl_then ?_ ?_ hb5) | (with_reducible refine bl_then ?_ ?_ hb6) | (with_reducible refine bl_then ?_ ?_ hb7) | (with_reducible refine bl_then ?_ ?_ hb8) | (with_reducible exact Nat.le_refl _) | omega | (simp only [World.size_alloc, World.size_setCell, World.size_drew, size_setRow]; omega) | (simp; omega) | (simp; done)))) (by simp; omega) hb)
  clear hb hz1
  go_wp2_with (with_reducible refine wpList_stO rowBox rfl (.tmp 21) (.tmp 18) rfl rfl rfl HC1.out (by omega) ?_)
  intro wA hA
  have HKA := Lib.hid (hA.far HK1.out (by omega))
  have HCA := Lib.hid (hA.here HC1.out)
  have HLA := Lib.hid (hA.below HL1.out (by omega))
  clear hA HK1 HC1 HL1
  go_wp2_with (with_reducible refine wpList_stO rowBox rfl (.tmp 23) (.tmp 19) rfl rfl rfl HCA.out (by omega) ?_)
  intro wB hB
  have HKB1 := Lib.hid (hB.far HKA.out (by omega))
  have HCB : Hid (wB.heap[N + 1]? = some (.cells (rwb 688 (cphF fun _ => 0)) 43 (0, 0))) := Lib.hid ((hB.here HCA.out).trans (by
    rw [rwb_congr (fun j hj => ?_)]
    unfold ovr cphF
    rcases (by omega : j < 176 ∨ (176 ≤ j ∧ j < 432) ∨ 432 ≤ j) with h | h | h
    · rw [if_neg (by omega), if_neg (by omega), if_pos h]
    · rw [if_neg (by omega), if_pos (by omega), if_neg (by omega), if_pos h.2]
    · rw [if_pos (by omega), if_neg (by omega), if_neg (by omega)]))
  have HLB := Lib.hid (hB.below HLA.out (by omega))
  clear hB HKA HCA HLA
  have hz2 := zero51
  have hWN : N + 1 < wB.heap.size := lt_of_heap HCB.out
  obtain ⟨D, hD⟩ : ∃ D, wB.heap.size = D := ⟨_, rfl⟩
  rw [hD] at hWN
  go_wp2_with fail
  clear hz2
  have HD0 : Hid ((wB.alloc (.cells (rwb 176 fun _ => 0) 51)).heap[D]? = some (.cells (rwb 176 fun j => if j < 4 * 0 then key j else 0) 51 (0, 0))) := Lib.hid (by
    rw [← hD, heap_alloc_last, rwb_congr (f := fun j => if j < 4 * 0 then key j else 0) (g := fun _ => 0) (fun j _ => if_neg (by omega))])
  have HK0 : Hid ((wB.alloc (.cells (rwb 176 fun _ => 0) 51)).heap[N]? = some (.cells (rwb 16 key) 28 (0, 0))) := Lib.hid (by rw [heap_alloc_if, if_neg (by omega)]; exact HKB1.out)
  have HC0 : Hid ((wB.alloc (.cells (rwb 176 fun _ => 0) 51)).heap[N + 1]? = some (.cells (rwb 688 (cphF fun _ => 0)) 43 (0, 0))) := Lib.hid (by rw [heap_alloc_if, if_neg (by omega)]; exact HCB.out)
  have HL0 : Hid (Below w.heap.size w (wB.alloc (.cells (rwb 176 fun _ => 0) 51))) := Lib.hid (HLB.out.alloc (by omega) _)
  go_loopw [24] (fun i wr => ∃ m : Nat, m ≤ 4 ∧ i = .int .i64 m ∧ Hid (wr.heap[D]? = some (.cells (rwb 176 fun j => if j < 4 * m then key j else 0) 51 (0, 0))) ∧ Hid (wr.heap[N]? = some (.cells (rwb 16 key) 28 (0, 0))) ∧ Hid (wr.heap[N + 1]? = some (.cells (rwb 688 (cphF fun _ => 0)) 43 (0, 0))) ∧ Hid (Below w.heap.size w wr)) (fun i _ => 4 - (intOf i).toNat)
  case atStart => exact ⟨0, by omega, rfl, HD0, HK0, HC0, HL0⟩
  case round =>
    clear HD0 HK0 HC0 HL0 HKB1 HCB HLB hD
    obtain ⟨m, hm, rfl, HD, HK, HC, HL⟩ := hrel
    by_cases hmlt : m < 4
    · have HI0 : Hid (Inv wr (fun g => g = D) (gh2 (some (D, .cells (rwb 176 fun j => if j < 4 * m then key j else 0) 51 (0, 0))) none) wr.drew) := Lib.hid (Inv.start2 HD.out rfl (by rintro g o h; cases h))
      rcases (by omega : m = 0 ∨ m = 1 ∨ m = 2 ∨ m = 3) with rfl | rfl | rfl | rfl
      · have hw : IntKind.i64.wrap 0 = 0 := by decide
        have HNX : Hid (rwb 176 (ovr (fun j => if j < 4 * 0 then key j else 0) 0 4 (fun j => key (0 + j))) = rwb 176 (fun j => if j < 4 * (0 + 1) then key j else 0)) := Lib.hid (rwb_congr (fun j hj => ovr_step key 0 _ 4 j))
        go_wp2_with fail
        apply wp_region_eff _ _ HI0.out (hm := by kernel_rfl)
        case h =>
          (apply SeqF.pure; (focus (first | rfl | (go_simp; done) | (simp [Region.wanted, yielded]; done))); (focus (intro w; go_simp; with_reducible rfl)); go_simp)
          (apply SeqF.pure; (focus (first | rfl | (go_simp; done) | (simp [Region.wanted, yielded]; done))); (focus (intro w; go_simp; with_reducible rfl)); go_simp)
          (apply SeqF.pure; (focus (first | rfl | (go_simp; done) | (simp [Region.wanted, yielded]; done))); (focus (intro w; go_simp; with_reducible rfl)); go_simp)
          (apply SeqF.pure; (focus (first | rfl | (go_simp; done) | (simp [Region.wanted, yielded]; done))); (focus (intro w; go_simp; with_reducible rfl)); go_simp)
          (apply SeqF.pure; (focus (first | rfl | (go_simp; done) | (simp [Region.wanted, yielded]; done))); (focus (intro w; go_simp; with_reducible rfl)); go_simp)
          (apply SeqF.pure; (focus (first | rfl | (go_simp; done) | (simp [Region.wanted, yielded]; done))); (focus (intro w; go_simp; with_reducible rfl)); go_simp)
          apply SeqF.copyR [0] 0 D 4 (.cells (rwb 176 fun j => if j < 4 * 0 then key j else 0) 51 (0, 0)) rfl (by simp) (.cells (rwb 176 (fun j => if j < 4 * (0 + 1) then key j else 0)) 51 (0, 0))
          · (first | rfl | (go_simp; done) | (simp [Region.wanted, yielded]; done))
          · exact fun γ' W hg hI hW => ⟨_, exec_copy rfl rfl rfl (run_copy_ovr (G := fun j => key (0 + j)) hW ((hI.far N (lt_of_heap HK.out) (by omega)).trans HK.out) (by decide) (by omega) (by omega) (fun j _ => rfl)), by rw [← HNX.out]; exact only_setRow hW⟩
          go_simp
          apply SeqF.done
          intro w9 hI9
          have HD9 := Lib.hid (hI9.here 0 D _ (Gh.set_here _ _ _)).1
          have HK9 := Lib.hid ((hI9.far N (lt_of_heap HK.out) (by omega)).trans HK.out)
          have HC9 := Lib.hid ((hI9.far (N + 1) (lt_of_heap HC.out) (by omega)).trans HC.out)
          have HL9 := Lib.hid (hI9.belowS HL.out HL.out.size (by rintro g rfl; omega))
          clear hI9
          go_simp
          go_wp2_with fail
          go_roundw
          case rel =>
            first
              | exact ⟨0 + 1, by omega, by go_num, HD9, HK9, HC9, HL9⟩
              | ((repeat apply Exists.intro); refine ⟨?_, rfl⟩; exact ⟨0 + 1, by omega, by go_num, HD9, HK9, HC9, HL9⟩)
          case measure => simp [intOf]
        case hl => rfl
        case ho => kernel_rfl
      · have hw : IntKind.i64.wrap 4 = 4 := by decide
        have HNX : Hid (rwb 176 (ovr (fun j => if j < 4 * 1 then key j else 0) 4 4 (fun j => key (4 + j))) = rwb 176 (fun j => if j < 4 * (1 + 1) then key j else 0)) := Lib.hid (rwb_congr (fun j hj => ovr_step key 0 _ 4 j))
        go_wp2_with fail
        apply wp_region_eff _ _ HI0.out (hm := by kernel_rfl)
        case h =>
          (apply SeqF.pure; (focus (first | rfl | (go_simp; done) | (simp [Region.wanted, yielded]; done))); (focus (intro w; go_simp; with_reducible rfl)); go_simp)
          (apply SeqF.pure; (focus (first | rfl | (go_simp; done) | (simp [Region.wanted, yielded]; done))); (focus (intro w; go_simp; with_reducible rfl)); go_simp)
          (apply SeqF.pure; (focus (first | rfl | (go_simp; done) | (simp [Region.wanted, yielded]; done))); (focus (intro w; go_simp; with_reducible rfl)); go_simp)
          (apply SeqF.pure; (focus (first | rfl | (go_simp; done) | (simp [Region.wanted, yielded]; done))); (focus (intro w; go_simp; with_reducible rfl)); go_simp)
          (apply SeqF.pure; (focus (first | rfl | (go_simp; done) | (simp [Region.wanted, yielded]; done))); (focus (intro w; go_simp; with_reducible rfl)); go_simp)
          (apply SeqF.pure; (focus (first | rfl | (go_simp; done) | (simp [Region.wanted, yielded]; done))); (focus (intro w; go_simp; with_reducible rfl)); go_simp)
          apply SeqF.copyR [0] 0 D 4 (.cells (rwb 176 fun j => if j < 4 * 1 then key j else 0) 51 (0, 0)) rfl (by simp) (.cells (rwb 176 (fun j => if j < 4 * (1 + 1) then key j else 0)) 51 (0, 0))
          · (first | rfl | (go_simp; done) | (simp [Region.wanted, yielded]; done))
          · exact fun γ' W hg hI hW => ⟨_, exec_copy rfl rfl rfl (run_copy_ovr (G := fun j => key (4 + j)) hW ((hI.far N (lt_of_heap HK.out) (by omega)).trans HK.out) (by decide) (by omega) (by omega) (fun j _ => rfl)), by rw [← HNX.out]; exact only_setRow hW⟩
          go_simp
          apply SeqF.done
          intro w9 hI9
          have HD9 := Lib.hid (hI9.here 0 D _ (Gh.set_here _ _ _)).1
          have HK9 := Lib.hid ((hI9.far N (lt_of_heap HK.out) (by omega)).trans HK.out)
          have HC9 := Lib.hid ((hI9.far (N + 1) (lt_of_heap HC.out) (by omega)).trans HC.out)
          have HL9 := Lib.hid (hI9.belowS HL.out HL.out.size (by rintro g rfl; omega))
          clear hI9
          go_simp
          go_wp2_with fail
          go_roundw
          case rel =>
            first
              | exact ⟨1 + 1, by omega, by go_num, HD9, HK9, HC9, HL9⟩
              | ((repeat apply Exists.intro); refine ⟨?_, rfl⟩; exact ⟨1 + 1, by omega, by go_num, HD9, HK9, HC9, HL9⟩)
          case measure => simp [intOf]
        case hl => rfl
        case ho => kernel_rfl
      · have hw : IntKind.i64.wrap 8 = 8 := by decide
        have HNX : Hid (rwb 176 (ovr (fun j => if j < 4 * 2 then key j else 0) 8 4 (fun j => key (8 + j))) = rwb 176 (fun j => if j < 4 * (2 + 1) then key j else 0)) := Lib.hid (rwb_congr (fun j hj => ovr_step key 0 _ 4 j))
        go_wp2_with fail
        apply wp_region_eff _ _ HI0.out (hm := by kernel_rfl)
        case h =>
          (apply SeqF.pure; (focus (first | rfl | (go_simp; done) | (simp [Region.wanted, yielded]; done))); (focus (intro w; go_simp; with_reducible rfl)); go_simp)
          (apply SeqF.pure; (focus (first | rfl | (go_simp; done) | (simp [Region.wanted, yielded]; done))); (focus (intro w; go_simp; with_reducible rfl)); go_simp)
          (apply SeqF.pure; (focus (first | rfl | (go_simp; done) | (simp [Region.wanted, yielded]; done))); (focus (intro w; go_simp; with_reducible rfl)); go_simp)
          (apply SeqF.pure; (focus (first | rfl | (go_simp; done) | (simp [Region.wanted, yielded]; done))); (focus (intro w; go_simp; with_reducible rfl)); go_simp)
          (apply SeqF.pure; (focus (first | rfl | (go_simp; done) | (simp [Region.wanted, yielded]; done))); (focus (intro w; go_simp; with_reducible rfl)); go_simp)
          (apply SeqF.pure; (focus (first | rfl | (go_simp; done) | (simp [Region.wanted, yielded]; done))); (focus (intro w; go_simp; with_reducible rfl)); go_simp)
          apply SeqF.copyR [0] 0 D 4 (.cells (rwb 176 fun j => if j < 4 * 2 then key j else 0) 51 (0, 0)) rfl (by simp) (.cells (rwb 176 (fun j => if j < 4 * (2 + 1) then key j else 0)) 51 (0, 0))
          · (first | rfl | (go_simp; done) | (simp [Region.wanted, yielded]; done))
          · exact fun γ' W hg hI hW => ⟨_, exec_copy rfl rfl rfl (run_copy_ovr (G := fun j => key (8 + j)) hW ((hI.far N (lt_of_heap HK.out) (by omega)).trans HK.out) (by decide) (by omega) (by omega) (fun j _ => rfl)), by rw [← HNX.out]; exact only_setRow hW⟩
          go_simp
          apply SeqF.done
          intro w9 hI9
          have HD9 := Lib.hid (hI9.here 0 D _ (Gh.set_here _ _ _)).1
          have HK9 := Lib.hid ((hI9.far N (lt_of_heap HK.out) (by omega)).trans HK.out)
          have HC9 := Lib.hid ((hI9.far (N + 1) (lt_of_heap HC.out) (by omega)).trans HC.out)
          have HL9 := Lib.hid (hI9.belowS HL.out HL.out.size (by rintro g rfl; omega))
          clear hI9
          go_simp
          go_wp2_with fail
          go_roundw
          case rel =>
            first
              | exact ⟨2 + 1, by omega, by go_num, HD9, HK9, HC9, HL9⟩
              | ((repeat apply Exists.intro); refine ⟨?_, rfl⟩; exact ⟨2 + 1, by omega, by go_num, HD9, HK9, HC9, HL9⟩)
          case measure => simp [intOf]
        case hl => rfl
        case ho => kernel_rfl
      · have hw : IntKind.i64.wrap 12 = 12 := by decide
        have HNX : Hid (rwb 176 (ovr (fun j => if j < 4 * 3 then key j else 0) 12 4 (fun j => key (12 + j))) = rwb 176 (fun j => if j < 4 * (3 + 1) then key j else 0)) := Lib.hid (rwb_congr (fun j hj => ovr_step key 0 _ 4 j))
        go_wp2_with fail
        apply wp_region_eff _ _ HI0.out (hm := by kernel_rfl)
        case h =>
          (apply SeqF.pure; (focus (first | rfl | (go_simp; done) | (simp [Region.wanted, yielded]; done))); (focus (intro w; go_simp; with_reducible rfl)); go_simp)
          (apply SeqF.pure; (focus (first | rfl | (go_simp; done) | (simp [Region.wanted, yielded]; done))); (focus (intro w; go_simp; with_reducible rfl)); go_simp)
          (apply SeqF.pure; (focus (first | rfl | (go_simp; done) | (simp [Region.wanted, yielded]; done))); (focus (intro w; go_simp; with_reducible rfl)); go_simp)
          (apply SeqF.pure; (focus (first | rfl | (go_simp; done) | (simp [Region.wanted, yielded]; done))); (focus (intro w; go_simp; with_reducible rfl)); go_simp)
          (apply SeqF.pure; (focus (first | rfl | (go_simp; done) | (simp [Region.wanted, yielded]; done))); (focus (intro w; go_simp; with_reducible rfl)); go_simp)
          (apply SeqF.pure; (focus (first | rfl | (go_simp; done) | (simp [Region.wanted, yielded]; done))); (focus (intro w; go_simp; with_reducible rfl)); go_simp)
          apply SeqF.copyR [0] 0 D 4 (.cells (rwb 176 fun j => if j < 4 * 3 then key j else 0) 51 (0, 0)) rfl (by simp) (.cells (rwb 176 (fun j => if j < 4 * (3 + 1) then key j else 0)) 51 (0, 0))
          · (first | rfl | (go_simp; done) | (simp [Region.wanted, yielded]; done))
          · exact fun γ' W hg hI hW => ⟨_, exec_copy rfl rfl rfl (run_copy_ovr (G := fun j => key (12 + j)) hW ((hI.far N (lt_of_heap HK.out) (by omega)).trans HK.out) (by decide) (by omega) (by omega) (fun j _ => rfl)), by rw [← HNX.out]; exact only_setRow hW⟩
          go_simp
          apply SeqF.done
          intro w9 hI9
          have HD9 := Lib.hid (hI9.here 0 D _ (Gh.set_here _ _ _)).1
          have HK9 := Lib.hid ((hI9.far N (lt_of_heap HK.out) (by omega)).trans HK.out)
          have HC9 := Lib.hid ((hI9.far (N + 1) (lt_of_heap HC.out) (by omega)).trans HC.out)
          have HL9 := Lib.hid (hI9.belowS HL.out HL.out.size (by rintro g rfl; omega))
          clear hI9
          go_simp
          go_wp2_with fail
          go_roundw
          case rel =>
            first
              | exact ⟨3 + 1, by omega, by go_num, HD9, HK9, HC9, HL9⟩
              | ((repeat apply Exists.intro); refine ⟨?_, rfl⟩; exact ⟨3 + 1, by omega, by go_num, HD9, HK9, HC9, HL9⟩)
          case measure => simp [intOf]
        case hl => rfl
        case ho => kernel_rfl
    · obtain rfl : m = 4 := by omega
      have HD2 : Hid (wr.heap[D]? = some (.cells (rwb 176 fun j => if j < 4 * 4 then kw key j else 0) 51 (0, 0))) := Lib.hid (by
        rw [HD.out, rwb_congr (g := fun j => if j < 4 * 4 then kw key j else 0) (fun j hj => ?_)]
        show (if j < 4 * 4 then key j else 0) = if j < 4 * 4 then kw key j else 0
        by_cases h : j < 16
        · rw [if_pos (by omega), if_pos (by omega), kw_low key h]
        · rw [if_neg (by omega), if_neg (by omega)])
      clear HD HK
      go_wp2_with fail
      go_loopw [6, 7] (fun r i wr => ∃ n : Nat, 4 ≤ n ∧ n ≤ 44 ∧ i = .int .i64 n ∧ r = .int .u8 (rcT ((n - 1) / 4) : Nat) ∧ Hid (wr.heap[D]? = some (.cells (rwb 176 fun j => if j < 4 * n then kw key j else 0) 51 (0, 0))) ∧ Hid (wr.heap[N + 1]? = some (.cells (rwb 688 (cphF fun _ => 0)) 43 (0, 0))) ∧ Hid (Below w.heap.size w wr)) (fun _ i _ => 44 - (intOf i).toNat)
      case atStart => exact ⟨4, by omega, by omega, rfl, rfl, HD2, HC, HL⟩
      case round =>
        clear HD2 HC HL
        obtain ⟨n, hn4, hn, rfl, rfl, HD, HC, HL⟩ := hrel
        by_cases hlt : n < 44
        · have hr := rcT_lt ((n - 1) / 4)
          obtain ⟨q, rfl⟩ : ∃ q, n = q + 4 := ⟨n - 4, by omega⟩
          have hkb := HKB.out
          obtain ⟨u, hu⟩ : ∃ u : Nat → Nat, ∀ c, kw key (4 * (q + 3) + c) = (u c : Nat) := ⟨fun c => (kw key (4 * (q + 3) + c)).toNat, fun c => by have := hkb (4 * (q + 3) + c); show kw key (4 * (q + 3) + c) = ((kw key (4 * (q + 3) + c)).toNat : Int); omega⟩
          have hub : ∀ c, u c < 256 := fun c => by have h1 := hkb (4 * (q + 3) + c); have h2 := hu c; omega
          have HU := Lib.hid hu
          have hcell : ∀ c, c < 4 → wr.cell? ⟨D, (q + 3) * 4 + c, none⟩ = some (.int .u8 ((u c : Nat) : Int)) := fun c hc => by
            rw [cell_rwb HD.out (by omega)]
            show some (Value.int .u8 (if (q + 3) * 4 + c < 4 * (q + 4) then kw key ((q + 3) * 4 + c) else 0)) = _
            rw [if_pos (by omega), ← hu c, Nat.mul_comm 4]
          have c0 := hcell 0 (by omega)
          have c1 := hcell 1 (by omega)
          have c2 := hcell 2 (by omega)
          have c3 := hcell 3 (by omega)
          rw [Nat.add_zero] at c0
          have b0 := hub 0
          have b1 := hub 1
          have b2 := hub 2
          have b3 := hub 3
          clear hcell hkb hu hub
          have HUG : Hid (u 0 = u 0 ∧ u 1 = u 1 ∧ u 2 = u 2 ∧ u 3 = u 3) := Lib.hid ⟨rfl, rfl, rfl, rfl⟩
          obtain ⟨u0, e0⟩ : ∃ x, u 0 = x := ⟨_, rfl⟩
          obtain ⟨u1, e1⟩ : ∃ x, u 1 = x := ⟨_, rfl⟩
          obtain ⟨u2, e2⟩ : ∃ x, u 2 = x := ⟨_, rfl⟩
          obtain ⟨u3, e3⟩ : ∃ x, u 3 = x := ⟨_, rfl⟩
          rw [e0] at c0 b0
          rw [e1] at c1 b1
          rw [e2] at c2 b2
          rw [e3] at c3 b3
          have HE := Lib.hid (And.intro e0 (And.intro e1 (And.intro e2 e3)))
          clear e0 e1 e2 e3 HUG
          have hpi : ((q + 4 : Nat) : Int) < 44 := by omega
          have HRC : Hid (rcT ((q + 4 - 1) / 4) = rcT ((q + 4 - 1) / 4)) := Lib.hid rfl
          obtain ⟨r, hre⟩ : ∃ r, rcT ((q + 4 - 1) / 4) = r := ⟨_, rfl⟩
          rw [hre] at hr
          have HRE := Lib.hid hre
          rw [hre]
          clear hre HRC
          obtain ⟨T, hT⟩ : ∃ T, wr.heap.size = T := ⟨_, rfl⟩
          have hDT : D < T := by rw [← hT]; exact lt_of_heap HD.out
          have HD0 : Hid ((wr.alloc (.cells #[.int .u8 u0, .int .u8 u1, .int .u8 u2, .int .u8 u3] 50)).heap[D]? = some (.cells (rwb 176 fun j => if j < 4 * (q + 4) then kw key j else 0) 51 (0, 0))) := Lib.hid (by rw [heap_alloc_if, if_neg (by omega)]; exact HD.out)
          have HC0 : Hid ((wr.alloc (.cells #[.int .u8 u0, .int .u8 u1, .int .u8 u2, .int .u8 u3] 50)).heap[N + 1]? = some (.cells (rwb 688 (cphF fun _ => 0)) 43 (0, 0))) := Lib.hid (by rw [heap_alloc_if, if_neg (by omega)]; exact HC.out)
          have HT0 : Hid ((wr.alloc (.cells #[.int .u8 u0, .int .u8 u1, .int .u8 u2, .int .u8 u3] 50)).heap[T]? = some (.cells #[.int .u8 u0, .int .u8 u1, .int .u8 u2, .int .u8 u3] 50 (0, 0))) := Lib.hid (by rw [← hT]; exact heap_alloc_last _ _)
          have HL0 : Hid (Below w.heap.size w (wr.alloc (.cells #[.int .u8 u0, .int .u8 u1, .int .u8 u2, .int .u8 u3] 50))) := Lib.hid (HL.out.alloc (by omega) _)
          by_cases h4 : (q + 4) % 4 = 0
          · have h4i : ((q : Int) % 4 == 0) = true := by simp; omega
            have h4j : (q : Int) % 4 = 0 := by omega
            have HCf : Hid (∀ W γ', Inv (wr.alloc (.cells #[.int .u8 u0, .int .u8 u1, .int .u8 u2, .int .u8 u3] 50)) (fun g => g = T) γ' W → ∀ x, x < 256 → W.cell? ⟨N + 1, 176 + x, none⟩ = some (.int .u8 (subI x))) := Lib.hid (fun W γ' hI x hx => by
              rw [cell_rwb ((hI.far (N + 1) (lt_of_heap HC0.out) (by omega)).trans HC0.out) (by omega)]
              show some (Value.int .u8 (if 176 + x < 176 then 0 else if 176 + x < 432 then subI (176 + x - 176) else unsI (176 + x - 432))) = _
              rw [if_neg (by omega), if_pos (by omega), Nat.add_sub_cancel_left])
            have HI0 : Hid (Inv (wr.alloc (.cells #[.int .u8 u0, .int .u8 u1, .int .u8 u2, .int .u8 u3] 50)) (fun g => g = T) (gh2 (some (T, .cells #[.int .u8 u0, .int .u8 u1, .int .u8 u2, .int .u8 u3] 50 (0, 0))) none) (wr.alloc (.cells #[.int .u8 u0, .int .u8 u1, .int .u8 u2, .int .u8 u3] 50)).drew) := Lib.hid (Inv.start2 HT0.out rfl (by rintro g o h; cases h))
            have HV : Hid (∀ c, c < 4 → (if c = 0 then bits .xor .u8 (subI u1) (r : Int) else if c = 1 then subI u2 else if c = 2 then subI u3 else subI u0) = turnK (q + 4) c (fun c => kw key (4 * (q + 3) + c))) := Lib.hid (fun c hc => by
              obtain ⟨e0, e1, e2, e3⟩ := HE.out
              unfold turnK
              rw [if_pos h4]
              show _ = if c = 0 then xr (sbI (kw key (4 * (q + 3) + 1))) _ else if c = 3 then sbI (kw key (4 * (q + 3) + 0)) else sbI (kw key (4 * (q + 3) + (c + 1)))
              have er : rcT ((q + 4) / 4 - 1) = r := by rw [← HRE.out]; congr 1; omega
              rw [HU.out, HU.out, HU.out, e0, e1, er]
              rcases (by omega : c = 0 ∨ c = 1 ∨ c = 2 ∨ c = 3) with rfl | rfl | rfl | rfl
              · rfl
              · show _ = sbI ((u 2 : Nat) : Int)
                rw [e2]; rfl
              · show _ = sbI ((u 3 : Nat) : Int)
                rw [e3]; rfl
              · rfl)
            have HRN : Hid (rcT ((q + 4 + 1 - 1) / 4) = x2 r) := Lib.hid (by
              rw [← HRE.out, show (q + 4 + 1 - 1) / 4 = (q + 4 - 1) / 4 + 1 by omega]
              rfl)
            clear HE HU HD HC HL
            have b0i : (u0 : Int) < 256 := by omega
            have b1i : (u1 : Int) < 256 := by omega
            have b2i : (u2 : Int) < 256 := by omega
            have b3i : (u3 : Int) < 256 := by omega
            go_wp2_with fail
            clear c0 c1 c2 c3
            apply wp_region_eff _ _ HI0.out (hm := by kernel_rfl)
            case h =>
              (apply SeqF.pure; (focus (first | rfl | (go_simp; done) | (simp [Region.wanted, yielded]; done))); (focus (intro w; go_simp; with_reducible rfl)); go_simp)
              (apply SeqF.pure; (focus (first | rfl | (go_simp; done) | (simp [Region.wanted, yielded]; done))); (focus (intro w; go_simp; with_reducible rfl)); go_simp)
              (apply SeqF.read [0]; (focus (first | rfl | (go_simp; done) | (simp [Region.wanted, yielded]; done))); (focus (intro γ' W hg hI; have hT9 := (hI.here 0 T _ ((hg 0 (by simp)).trans rfl)).1; have x0 : W.cell? ⟨T, 1, none⟩ = some _ := (cell_of_row W T 1 _ _ (0, 0) hT9).trans rfl; clear hT9; go_simp; with_reducible rfl)); go_simp)
              (apply SeqF.pure; (focus (first | rfl | (go_simp; done) | (simp [Region.wanted, yielded]; done))); (focus (intro w; go_simp; with_reducible rfl)); go_simp)
              (apply SeqF.pure; (focus (first | rfl | (go_simp; done) | (simp [Region.wanted, yielded]; done))); (focus (intro w; go_simp; with_reducible rfl)); go_simp)
              (apply SeqF.pure; (focus (first | rfl | (go_simp; done) | (simp [Region.wanted, yielded]; done))); (focus (intro w; go_simp; with_reducible rfl)); go_simp)
              (apply SeqF.read []; (focus (first | rfl | (go_simp; done) | (simp [Region.wanted, yielded]; done))); (focus (intro γ' W hg hI; have x0 := HCf.out W γ' hI u1 b1; go_simp; with_reducible rfl)); go_simp)
              (apply SeqF.pure; (focus (first | rfl | (go_simp; done) | (simp [Region.wanted, yielded]; done))); (focus (intro w; go_simp; with_reducible rfl)); go_simp)
              (apply SeqF.pure; (focus (first | rfl | (go_simp; done) | (simp [Region.wanted, yielded]; done))); (focus (intro w; go_simp; with_reducible rfl)); go_simp)
              (apply SeqF.pure; (focus (first | rfl | (go_simp; done) | (simp [Region.wanted, yielded]; done))); (focus (intro w; go_simp; with_reducible rfl)); go_simp)
              (apply SeqF.pure; (focus (first | rfl | (go_simp; done) | (simp [Region.wanted, yielded]; done))); (focus (intro w; go_simp; with_reducible rfl)); go_simp)
              (apply SeqF.read [0]; (focus (first | rfl | (go_simp; done) | (simp [Region.wanted, yielded]; done))); (focus (intro γ' W hg hI; have hT9 := (hI.here 0 T _ ((hg 0 (by simp)).trans rfl)).1; have x0 : W.cell? ⟨T, 2, none⟩ = some _ := (cell_of_row W T 2 _ _ (0, 0) hT9).trans rfl; clear hT9; go_simp; with_reducible rfl)); go_simp)
              (apply SeqF.pure; (focus (first | rfl | (go_simp; done) | (simp [Region.wanted, yielded]; done))); (focus (intro w; go_simp; with_reducible rfl)); go_simp)
              (apply SeqF.pure; (focus (first | rfl | (go_simp; done) | (simp [Region.wanted, yielded]; done))); (focus (intro w; go_simp; with_reducible rfl)); go_simp)
              (apply SeqF.pure; (focus (first | rfl | (go_simp; done) | (simp [Region.wanted, yielded]; done))); (focus (intro w; go_simp; with_reducible rfl)); go_simp)
              (apply SeqF.read []; (focus (first | rfl | (go_simp; done) | (simp [Region.wanted, yielded]; done))); (focus (intro γ' W hg hI; have x0 := HCf.out W γ' hI u2 b2; go_simp; with_reducible rfl)); go_simp)
              (apply SeqF.pure; (focus (first | rfl | (go_simp; done) | (simp [Region.wanted, yielded]; done))); (focus (intro w; go_simp; with_reducible rfl)); go_simp)
              (apply SeqF.pure; (focus (first | rfl | (go_simp; done) | (simp [Region.wanted, yielded]; done))); (focus (intro w; go_simp; with_reducible rfl)); go_simp)
              (apply SeqF.read [0]; (focus (first | rfl | (go_simp; done) | (simp [Region.wanted, yielded]; done))); (focus (intro γ' W hg hI; have hT9 := (hI.here 0 T _ ((hg 0 (by simp)).trans rfl)).1; have x0 : W.cell? ⟨T, 3, none⟩ = some _ := (cell_of_row W T 3 _ _ (0, 0) hT9).trans rfl; clear hT9; go_simp; with_reducible rfl)); go_simp)
              (apply SeqF.pure; (focus (first | rfl | (go_simp; done) | (simp [Region.wanted, yielded]; done))); (focus (intro w; go_simp; with_reducible rfl)); go_simp)
              (apply SeqF.pure; (focus (first | rfl | (go_simp; done) | (simp [Region.wanted, yielded]; done))); (focus (intro w; go_simp; with_reducible rfl)); go_simp)
              (apply SeqF.pure; (focus (first | rfl | (go_simp; done) | (simp [Region.wanted, yielded]; done))); (focus (intro w; go_simp; with_reducible rfl)); go_simp)
              (apply SeqF.read []; (focus (first | rfl | (go_simp; done) | (simp [Region.wanted, yielded]; done))); (focus (intro γ' W hg hI; have x0 := HCf.out W γ' hI u3 b3; go_simp; with_reducible rfl)); go_simp)
              (apply SeqF.pure; (focus (first | rfl | (go_simp; done) | (simp [Region.wanted, yielded]; done))); (focus (intro w; go_simp; with_reducible rfl)); go_simp)
              (apply SeqF.pure; (focus (first | rfl | (go_simp; done) | (simp [Region.wanted, yielded]; done))); (focus (intro w; go_simp; with_reducible rfl)); go_simp)
              (apply SeqF.read [0]; (focus (first | rfl | (go_simp; done) | (simp [Region.wanted, yielded]; done))); (focus (intro γ' W hg hI; have hT9 := (hI.here 0 T _ ((hg 0 (by simp)).trans rfl)).1; have x0 : W.cell? ⟨T, 0, none⟩ = some _ := (cell_of_row W T 0 _ _ (0, 0) hT9).trans rfl; clear hT9; go_simp; with_reducible rfl)); go_simp)
              (apply SeqF.pure; (focus (first | rfl | (go_simp; done) | (simp [Region.wanted, yielded]; done))); (focus (intro w; go_simp; with_reducible rfl)); go_simp)
              (apply SeqF.pure; (focus (first | rfl | (go_simp; done) | (simp [Region.wanted, yielded]; done))); (focus (intro w; go_simp; with_reducible rfl)); go_simp)
              (apply SeqF.pure; (focus (first | rfl | (go_simp; done) | (simp [Region.wanted, yielded]; done))); (focus (intro w; go_simp; with_reducible rfl)); go_simp)
              (apply SeqF.read []; (focus (first | rfl | (go_simp; done) | (simp [Region.wanted, yielded]; done))); (focus (intro γ' W hg hI; have x0 := HCf.out W γ' hI u0 b0; go_simp; with_reducible rfl)); go_simp)
              (apply SeqF.pure; (focus (first | rfl | (go_simp; done) | (simp [Region.wanted, yielded]; done))); (focus (intro w; go_simp; with_reducible rfl)); go_simp)
              apply SeqF.store [0] 0 T (.cells #[.int .u8 u0, .int .u8 u1, .int .u8 u2, .int .u8 u3] 50 (0, 0)) rfl (by simp) (fun _ => .cells #[.int .u8 (bits .xor .u8 (subI u1) (r : Int)), .int .u8 (subI u2), .int .u8 (subI u3), .int .u8 (subI u0)] 50 (0, 0))
              · exact fun _ _ => rfl
              · (first | rfl | (go_simp; done) | (simp [Region.wanted, yielded]; done))
              · exact fun γ' W hg hI hW => ⟨_, exec_store rfl rfl rfl (run_store_whole Try.prog 50 50 _ (by kernel_rfl) (by kernel_rfl) W T _ hW (by kernel_rfl)), only_setRow hW⟩
              go_simp
              apply SeqF.done
              intro wA hIA
              have HT9 := Lib.hid (hIA.here 0 T _ (Gh.set_here _ _ _)).1
              have HD9 := Lib.hid ((hIA.far D (lt_of_heap HD0.out) (by omega)).trans HD0.out)
              have HC9 := Lib.hid ((hIA.far (N + 1) (lt_of_heap HC0.out) (by omega)).trans HC0.out)
              have HL9 := Lib.hid (hIA.belowS HL0.out HL0.out.size (by rintro g rfl; omega))
              clear hIA HCf HD0 HT0 HC0 HL0
              go_simp
              generalize bits .xor .u8 (subI u1) (r : Int) = v0 at *
              generalize subI u2 = v1 at *
              generalize subI u3 = v2 at *
              generalize subI u0 = v3 at *
              go_wp2_with fail
              refine (twice_any r _ hr).mono ?_
              rintro e wB9 ⟨rfl, rfl⟩
              go_wp2_with fail
              have HUV := Lib.hid (fun c (hc : c < 4) => HV.out c hc)
              go_loopw [79] (fun i wr => ∃ k : Nat, k ≤ 4 ∧ i = .int .i64 k ∧ Hid (wr.heap[D]? = some (.cells (rwb 176 fun j => if j < 4 * (q + 4) + k then kw key j else 0) 51 (0, 0))) ∧ Hid (wr.heap[T]? = some (.cells #[.int .u8 v0, .int .u8 v1, .int .u8 v2, .int .u8 v3] 50 (0, 0))) ∧ Hid (wr.heap[N + 1]? = some (.cells (rwb 688 (cphF fun _ => 0)) 43 (0, 0))) ∧ Hid (Below w.heap.size w wr)) (fun i _ => 4 - (intOf i).toNat)
              case atStart => exact ⟨0, by omega, rfl, HD9, HT9, HC9, HL9⟩
              case round =>
                clear HD9 HT9 HC9 HL9
                obtain ⟨k, hk4, rfl, HD, HT, HC, HL⟩ := hrel
                by_cases hlt2 : k < 4
                · have hKW : kw key (4 * (q + 4) + k) = xr (kw key (4 * q + k)) (turnK (q + 4) k (fun c => kw key (4 * (q + 3) + c))) := by
                    rw [kw_high key (by omega), show 4 * (q + 4) + k - 16 = 4 * q + k by omega, show (4 * (q + 4) + k) / 4 = q + 4 by omega, show (4 * (q + 4) + k) % 4 = k by omega]
                    rfl
                  have hd : wr.cell? ⟨D, q * 4 + k, none⟩ = some (.int .u8 (kw key (4 * q + k))) := by
                    rw [cell_rwb HD.out (by omega)]
                    show some (Value.int .u8 (if q * 4 + k < 4 * (q + 4) + k then kw key (q * 4 + k) else 0)) = _
                    rw [if_pos (by omega), Nat.mul_comm q 4]
                  have hvk := HUV.out k hlt2
                  rw [← hvk] at hKW
                  have fx := frozen_of_row wr D ((q + 4) * 4 + k) _ _ HD.out
                  have cz := cell_rwb (i := (q + 4) * 4 + k) HD.out (by omega)
                  have HKW := Lib.hid hKW
                  clear hKW hvk
                  generalize kw key (4 * q + k) = y at *
                  generalize (if (q + 4) * 4 + k < 4 * (q + 4) + k then kw key ((q + 4) * 4 + k) else 0) = old at *
                  have HDN : ∀ x, kw key (4 * (q + 4) + k) = x → Hid ((wr.setCell ⟨D, (q + 4) * 4 + k, none⟩ (.int .u8 x)).heap[D]? = some (.cells (rwb 176 fun j => if j < 4 * (q + 4) + (k + 1) then kw key j else 0) 51 (0, 0))) := fun x hx => Lib.hid (shut_row HD.out (by omega) (fun j hj => by
                    unfold upd
                    show (if j = (q + 4) * 4 + k then x else (if j < 4 * (q + 4) + k then kw key j else 0)) = if j < 4 * (q + 4) + (k + 1) then kw key j else 0
                    by_cases h : j = (q + 4) * 4 + k
                    · rw [if_pos h, if_pos (by omega), ← hx, h, Nat.mul_comm]
                    · rw [if_neg h]
                      by_cases h2 : j < 4 * (q + 4) + k
                      · rw [if_pos h2, if_pos (by omega)]
                      · rw [if_neg h2, if_neg (by omega)]))
                  have HDN2 := Lib.hid HDN
                  clear HDN
                  have hk4i : (k : Int) < 4 := by omega
                  have hk0i : (0 : Int) ≤ (k : Int) := by omega
                  have t0 : wr.cell? ⟨T, 0, none⟩ = some (.int .u8 v0) := (cell_of_row wr T 0 _ _ (0, 0) HT.out).trans rfl
                  have t1 : wr.cell? ⟨T, 1, none⟩ = some (.int .u8 v1) := (cell_of_row wr T 1 _ _ (0, 0) HT.out).trans rfl
                  have t2 : wr.cell? ⟨T, 2, none⟩ = some (.int .u8 v2) := (cell_of_row wr T 2 _ _ (0, 0) HT.out).trans rfl
                  have t3 : wr.cell? ⟨T, 3, none⟩ = some (.int .u8 v3) := (cell_of_row wr T 3 _ _ (0, 0) HT.out).trans rfl
                  obtain ⟨vk, hvk, htk⟩ : ∃ vk, (if k = 0 then v0 else if k = 1 then v1 else if k = 2 then v2 else v3) = vk ∧ wr.cell? ⟨T, k, none⟩ = some (.int .u8 vk) := by
                    rcases (by omega : k = 0 ∨ k = 1 ∨ k = 2 ∨ k = 3) with rfl | rfl | rfl | rfl
                    · exact ⟨v0, rfl, t0⟩
                    · exact ⟨v1, rfl, t1⟩
                    · exact ⟨v2, rfl, t2⟩
                    · exact ⟨v3, rfl, t3⟩
                  rw [hvk] at HKW
                  clear t0 t1 t2 t3 hvk
                  go_wp2_with fail
                  go_region
                  go_wp2_with fail
                  go_roundw
                  case rel =>
                    exact ⟨k + 1, by omega, by go_num, HDN2.out _ (by rw [HKW.out]; rfl), Lib.hid ((heap_setCell_other _ ⟨_, _, _⟩ _ _ (by simp; omega)).trans HT.out), Lib.hid ((heap_setCell_other _ ⟨_, _, _⟩ _ _ (by simp; omega)).trans HC.out), Lib.hid (bl_drew (HL.out.setCell (by simp; omega) _))⟩
                  case measure => simp [intOf] <;> omega
                · obtain rfl : k = 4 := by omega
                  go_wp2_with fail
                  go_roundw
                  case rel =>
                    first
                      | exact ⟨q + 4 + 1, by omega, by omega, by go_num, by rw [HRN.out], HD, HC, HL⟩
                      | ((repeat apply Exists.intro); refine ⟨?_, rfl⟩; exact ⟨q + 4 + 1, by omega, by omega, by go_num, by rw [HRN.out], HD, HC, HL⟩)
                  case measure =>
                    simp [intOf]
                    omega
            case hl => rfl
            case ho => kernel_rfl
          · have h4i : ((q : Int) % 4 == 0) = false := by simp; omega
            have h4j : ¬ (q : Int) % 4 = 0 := by omega
            have HV : Hid (∀ c, c < 4 → (if c = 0 then (u0 : Int) else if c = 1 then (u1 : Int) else if c = 2 then (u2 : Int) else (u3 : Int)) = turnK (q + 4) c (fun c => kw key (4 * (q + 3) + c))) := Lib.hid (fun c hc => by
              obtain ⟨e0, e1, e2, e3⟩ := HE.out
              unfold turnK
              rw [if_neg h4]
              show _ = kw key (4 * (q + 3) + c)
              rw [HU.out c]
              rcases (by omega : c = 0 ∨ c = 1 ∨ c = 2 ∨ c = 3) with rfl | rfl | rfl | rfl
              · rw [e0]; rfl
              · rw [e1]; rfl
              · rw [e2]; rfl
              · rw [e3]; rfl)
            have HRN : Hid (rcT ((q + 4 + 1 - 1) / 4) = r) := Lib.hid (by rw [← HRE.out]; congr 1; omega)
            clear HE HU HD HC HL
            have HD9 := HD0
            have HT9 := HT0
            have HC9 := HC0
            have HL9 := HL0
            clear HD0 HT0 HC0 HL0
            go_wp2_with fail
            clear c0 c1 c2 c3
            generalize (u0 : Int) = v0 at *
            generalize (u1 : Int) = v1 at *
            generalize (u2 : Int) = v2 at *
            generalize (u3 : Int) = v3 at *
            generalize (wr.alloc (.cells #[.int .u8 v0, .int .u8 v1, .int .u8 v2, .int .u8 v3] 50)) = wT at *
            have HUV := Lib.hid (fun c (hc : c < 4) => HV.out c hc)
            go_loopw [79] (fun i wr => ∃ k : Nat, k ≤ 4 ∧ i = .int .i64 k ∧ Hid (wr.heap[D]? = some (.cells (rwb 176 fun j => if j < 4 * (q + 4) + k then kw key j else 0) 51 (0, 0))) ∧ Hid (wr.heap[T]? = some (.cells #[.int .u8 v0, .int .u8 v1, .int .u8 v2, .int .u8 v3] 50 (0, 0))) ∧ Hid (wr.heap[N + 1]? = some (.cells (rwb 688 (cphF fun _ => 0)) 43 (0, 0))) ∧ Hid (Below w.heap.size w wr)) (fun i _ => 4 - (intOf i).toNat)
            case atStart => exact ⟨0, by omega, rfl, HD9, HT9, HC9, HL9⟩
            case round =>
              clear HD9 HT9 HC9 HL9
              obtain ⟨k, hk4, rfl, HD, HT, HC, HL⟩ := hrel
              by_cases hlt2 : k < 4
              · have hKW : kw key (4 * (q + 4) + k) = xr (kw key (4 * q + k)) (turnK (q + 4) k (fun c => kw key (4 * (q + 3) + c))) := by
                  rw [kw_high key (by omega), show 4 * (q + 4) + k - 16 = 4 * q + k by omega, show (4 * (q + 4) + k) / 4 = q + 4 by omega, show (4 * (q + 4) + k) % 4 = k by omega]
                  rfl
                have hd : wr.cell? ⟨D, q * 4 + k, none⟩ = some (.int .u8 (kw key (4 * q + k))) := by
                  rw [cell_rwb HD.out (by omega)]
                  show some (Value.int .u8 (if q * 4 + k < 4 * (q + 4) + k then kw key (q * 4 + k) else 0)) = _
                  rw [if_pos (by omega), Nat.mul_comm q 4]
                have hvk := HUV.out k hlt2
                rw [← hvk] at hKW
                have fx := frozen_of_row wr D ((q + 4) * 4 + k) _ _ HD.out
                have cz := cell_rwb (i := (q + 4) * 4 + k) HD.out (by omega)
                have HKW := Lib.hid hKW
                clear hKW hvk
                generalize kw key (4 * q + k) = y at *
                generalize (if (q + 4) * 4 + k < 4 * (q + 4) + k then kw key ((q + 4) * 4 + k) else 0) = old at *
                have HDN : ∀ x, kw key (4 * (q + 4) + k) = x → Hid ((wr.setCell ⟨D, (q + 4) * 4 + k, none⟩ (.int .u8 x)).heap[D]? = some (.cells (rwb 176 fun j => if j < 4 * (q + 4) + (k + 1) then kw key j else 0) 51 (0, 0))) := fun x hx => Lib.hid (shut_row HD.out (by omega) (fun j hj => by
                  unfold upd
                  show (if j = (q + 4) * 4 + k then x else (if j < 4 * (q + 4) + k then kw key j else 0)) = if j < 4 * (q + 4) + (k + 1) then kw key j else 0
                  by_cases h : j = (q + 4) * 4 + k
                  · rw [if_pos h, if_pos (by omega), ← hx, h, Nat.mul_comm]
                  · rw [if_neg h]
                    by_cases h2 : j < 4 * (q + 4) + k
                    · rw [if_pos h2, if_pos (by omega)]
                    · rw [if_neg h2, if_neg (by omega)]))
                have HDN2 := Lib.hid HDN
                clear HDN
                have hk4i : (k : Int) < 4 := by omega
                have hk0i : (0 : Int) ≤ (k : Int) := by omega
                have t0 : wr.cell? ⟨T, 0, none⟩ = some (.int .u8 v0) := (cell_of_row wr T 0 _ _ (0, 0) HT.out).trans rfl
                have t1 : wr.cell? ⟨T, 1, none⟩ = some (.int .u8 v1) := (cell_of_row wr T 1 _ _ (0, 0) HT.out).trans rfl
                have t2 : wr.cell? ⟨T, 2, none⟩ = some (.int .u8 v2) := (cell_of_row wr T 2 _ _ (0, 0) HT.out).trans rfl
                have t3 : wr.cell? ⟨T, 3, none⟩ = some (.int .u8 v3) := (cell_of_row wr T 3 _ _ (0, 0) HT.out).trans rfl
                obtain ⟨vk, hvk, htk⟩ : ∃ vk, (if k = 0 then v0 else if k = 1 then v1 else if k = 2 then v2 else v3) = vk ∧ wr.cell? ⟨T, k, none⟩ = some (.int .u8 vk) := by
                  rcases (by omega : k = 0 ∨ k = 1 ∨ k = 2 ∨ k = 3) with rfl | rfl | rfl | rfl
                  · exact ⟨v0, rfl, t0⟩
                  · exact ⟨v1, rfl, t1⟩
                  · exact ⟨v2, rfl, t2⟩
                  · exact ⟨v3, rfl, t3⟩
                rw [hvk] at HKW
                clear t0 t1 t2 t3 hvk
                go_wp2_with fail
                go_region
                go_wp2_with fail
                go_roundw
                case rel =>
                  exact ⟨k + 1, by omega, by go_num, HDN2.out _ (by rw [HKW.out]; rfl), Lib.hid ((heap_setCell_other _ ⟨_, _, _⟩ _ _ (by simp; omega)).trans HT.out), Lib.hid ((heap_setCell_other _ ⟨_, _, _⟩ _ _ (by simp; omega)).trans HC.out), Lib.hid (bl_drew (HL.out.setCell (by simp; omega) _))⟩
                case measure => simp [intOf] <;> omega
              · obtain rfl : k = 4 := by omega
                go_wp2_with fail
                go_roundw
                case rel =>
                  first
                    | exact ⟨q + 4 + 1, by omega, by omega, by go_num, by rw [HRN.out], HD, HC, HL⟩
                    | ((repeat apply Exists.intro); refine ⟨?_, rfl⟩; exact ⟨q + 4 + 1, by omega, by omega, by go_num, by rw [HRN.out], HD, HC, HL⟩)
                case measure =>
                  simp [intOf]
                  omega
        · obtain rfl : n = 44 := by omega
          have HD2 : Hid (wr.heap[D]? = some (.cells (rwb 176 (kw key)) 51 (0, 0))) := Lib.hid (by rw [HD.out, rwb_congr (f := fun j => if j < 4 * 44 then kw key j else 0) (g := kw key) (fun j hj => if_pos hj)])
          have HC2 : Hid (wr.heap[N + 1]? = some (.cells (rwb 688 (cphF fun j => if j < 4 * 0 then kw key j else 0)) 43 (0, 0))) := Lib.hid (by
            rw [HC.out, rwb_congr (f := cphF fun _ => 0) (g := cphF fun j => if j < 4 * 0 then kw key j else 0) (fun j hj => ?_)]
            unfold cphF
            by_cases h : j < 176
            · rw [if_pos h, if_pos h]
              exact (if_neg (by omega)).symm
            · rw [if_neg h, if_neg h])
          clear HD HC
          generalize (rcT ((44 - 1) / 4) : Int) = r at *
          go_wp2_with (with_reducible refine wpList_ld rowWords rfl (.tmp 4) rfl rfl HD2.out (by omega) (G := kw key) (fun j _ => by rw [Nat.zero_add]) ?_)
          clear HD2
          go_loopw [98] (fun i wr => ∃ m : Nat, m ≤ 44 ∧ i = .int .i64 m ∧ Hid (wr.heap[N + 1]? = some (.cells (rwb 688 (cphF fun j => if j < 4 * m then kw key j else 0)) 43 (0, 0))) ∧ Hid (Below w.heap.size w wr)) (fun i _ => 44 - (intOf i).toNat)
          case atStart => exact ⟨0, by omega, rfl, HC2, HL⟩
          case round =>
            clear HC2 HL
            obtain ⟨m, hm, rfl, HC, HL⟩ := hrel
            by_cases hml : m < 44
            · have hmi : (m : Int) < 44 := by omega
              have hm0 : (0 : Int) ≤ (m : Int) := by omega
              have HIX : Hid (∀ W, (Instr.index 51 (.agg (rwb 176 (kw key))) (.int .i64 m)).run Try.prog W = .ok (.agg #[.int .u8 (kw key (4 * m)), .int .u8 (kw key (4 * m + 1)), .int .u8 (kw key (4 * m + 2)), .int .u8 (kw key (4 * m + 3))]) W) := Lib.hid (fun W => run_index_word (kw key) hml)
              obtain ⟨v0, e0⟩ : ∃ x, kw key (4 * m) = x := ⟨_, rfl⟩
              obtain ⟨v1, e1⟩ : ∃ x, kw key (4 * m + 1) = x := ⟨_, rfl⟩
              obtain ⟨v2, e2⟩ : ∃ x, kw key (4 * m + 2) = x := ⟨_, rfl⟩
              obtain ⟨v3, e3⟩ : ∃ x, kw key (4 * m + 3) = x := ⟨_, rfl⟩
              rw [e0, e1, e2, e3] at HIX
              have HE := Lib.hid (And.intro e0 (And.intro e1 (And.intro e2 e3)))
              clear e0 e1 e2 e3
              have hix := HIX.out
              have HG4 : Hid (∀ c, c < 4 → G4 v0 v1 v2 v3 c = kw key (4 * m + c)) := Lib.hid (fun c hc => by
                obtain ⟨e0, e1, e2, e3⟩ := HE.out
                rcases (by omega : c = 0 ∨ c = 1 ∨ c = 2 ∨ c = 3) with rfl | rfl | rfl | rfl
                · exact e0.symm
                · exact e1.symm
                · exact e2.symm
                · exact e3.symm)
              clear HE
              obtain ⟨T, hT⟩ : ∃ T, wr.heap.size = T := ⟨_, rfl⟩
              have hNT : N + 1 < T := by rw [← hT]; exact lt_of_heap HC.out
              have HT0 : Hid ((wr.alloc (.cells #[.int .u8 v0, .int .u8 v1, .int .u8 v2, .int .u8 v3] 50)).heap[T]? = some (.cells (rwb 4 (G4 v0 v1 v2 v3)) 50 (0, 0))) := Lib.hid (by rw [← hT]; exact heap_alloc_last _ _)
              have HC0 : Hid ((wr.alloc (.cells #[.int .u8 v0, .int .u8 v1, .int .u8 v2, .int .u8 v3] 50)).heap[N + 1]? = some (.cells (rwb 688 (cphF fun j => if j < 4 * m then kw key j else 0)) 43 (0, 0))) := Lib.hid (by rw [heap_alloc_if, if_neg (by omega)]; exact HC.out)
              have HL0 : Hid (Below w.heap.size w (wr.alloc (.cells #[.int .u8 v0, .int .u8 v1, .int .u8 v2, .int .u8 v3] 50))) := Lib.hid (HL.out.alloc (by omega) _)
              have HI0 : Hid (Inv (wr.alloc (.cells #[.int .u8 v0, .int .u8 v1, .int .u8 v2, .int .u8 v3] 50)) (fun g => g = N + 1) (gh2 (some (N + 1, .cells (rwb 688 (cphF fun j => if j < 4 * m then kw key j else 0)) 43 (0, 0))) none) (wr.alloc (.cells #[.int .u8 v0, .int .u8 v1, .int .u8 v2, .int .u8 v3] 50)).drew) := Lib.hid (Inv.start2 HC0.out rfl (by rintro g o h; cases h))
              clear HC HL
              obtain ⟨a, ha⟩ : ∃ a, m / 4 = a := ⟨_, rfl⟩
              rcases (by omega : m = 4 * a ∨ m = 4 * a + 1 ∨ m = 4 * a + 2 ∨ m = 4 * a + 3) with hma | hma | hma | hma
              · have hq : (m : Int) / 4 = (a : Int) := by omega
                have hrm : (m : Int) % 4 = 0 := by omega
                have hrt : Int.tmod (m : Int) 4 = 0 := by rw [Int.tmod_eq_emod_of_nonneg (by omega)]; omega
                have hwa : IntKind.i64.wrap (a : Int) = (a : Int) := IntWalk.i64_in _ (by omega)
                have hwc : IntKind.i64.wrap 0 = 0 := by decide
                have hai : (a : Int) < 11 := by omega
                have hOM : a * 16 + 0 = 4 * m := by omega
                clear hma ha
                go_wp2_with fail
                apply wp_region_eff _ _ HI0.out (hm := by kernel_rfl)
                case h =>
                  (apply SeqF.pure; (focus (first | rfl | (go_simp; done) | (simp [Region.wanted, yielded]; done))); (focus (intro w; go_simp; with_reducible rfl)); go_simp)
                  (apply SeqF.pure; (focus (first | rfl | (go_simp; done) | (simp [Region.wanted, yielded]; done))); (focus (intro w; go_simp; with_reducible rfl)); go_simp)
                  (apply SeqF.pure; (focus (first | rfl | (go_simp; done) | (simp [Region.wanted, yielded]; done))); (focus (intro w; go_simp; with_reducible rfl)); go_simp)
                  (apply SeqF.pure; (focus (first | rfl | (go_simp; done) | (simp [Region.wanted, yielded]; done))); (focus (intro w; go_simp; with_reducible rfl)); go_simp)
                  (apply SeqF.pure; (focus (first | rfl | (go_simp; done) | (simp [Region.wanted, yielded]; done))); (focus (intro w; go_simp; with_reducible rfl)); go_simp)
                  (apply SeqF.pure; (focus (first | rfl | (go_simp; done) | (simp [Region.wanted, yielded]; done))); (focus (intro w; go_simp; with_reducible rfl)); go_simp)
                  (apply SeqF.pure; (focus (first | rfl | (go_simp; done) | (simp [Region.wanted, yielded]; done))); (focus (intro w; go_simp; with_reducible rfl)); go_simp)
                  (apply SeqF.pure; (focus (first | rfl | (go_simp; done) | (simp [Region.wanted, yielded]; done))); (focus (intro w; go_simp; with_reducible rfl)); go_simp)
                  (apply SeqF.pure; (focus (first | rfl | (go_simp; done) | (simp [Region.wanted, yielded]; done))); (focus (intro w; go_simp; with_reducible rfl)); go_simp)
                  (apply SeqF.pure; (focus (first | rfl | (go_simp; done) | (simp [Region.wanted, yielded]; done))); (focus (intro w; go_simp; with_reducible rfl)); go_simp)
                  (apply SeqF.pure; (focus (first | rfl | (go_simp; done) | (simp [Region.wanted, yielded]; done))); (focus (intro w; go_simp; with_reducible rfl)); go_simp)
                  apply SeqF.copyR [0] 0 (N + 1) 4 (.cells (rwb 688 (cphF fun j => if j < 4 * m then kw key j else 0)) 43 (0, 0)) rfl (by simp) (.cells (rwb 688 (cphF fun j => if j < 4 * (m + 1) then kw key j else 0)) 43 (0, 0))
                  · (first | rfl | (go_simp; done) | (simp [Region.wanted, yielded]; done))
                  · exact fun γ' W hg hI hW => ⟨_, exec_copy rfl rfl rfl (run_copy_ovr (G := G4 v0 v1 v2 v3) hW ((hI.far T (lt_of_heap HT0.out) (by omega)).trans HT0.out) (by decide) (by omega) (by omega) (fun j _ => by rw [Nat.zero_add])), by rw [rwb_congr (fun j hj => cph_step key m (a * 16) (by omega) hml _ HG4.out j)]; exact only_setRow hW⟩
                  go_simp
                  apply SeqF.done
                  intro w9 hI9
                  have HC9 := Lib.hid (hI9.here 0 (N + 1) _ (Gh.set_here _ _ _)).1
                  have HL9 := Lib.hid (hI9.belowS HL0.out HL0.out.size (by rintro g rfl; omega))
                  clear hI9
                  go_simp
                  go_wp2_with fail
                  go_roundw
                  case rel =>
                    first
                      | exact ⟨m + 1, by omega, by go_num, HC9, HL9⟩
                      | ((repeat apply Exists.intro); refine ⟨?_, rfl⟩; exact ⟨m + 1, by omega, by go_num, HC9, HL9⟩)
                  case measure =>
                    simp [intOf]
                    omega
                case hl => rfl
                case ho => kernel_rfl
              · have hq : (m : Int) / 4 = (a : Int) := by omega
                have hrm : (m : Int) % 4 = 1 := by omega
                have hrt : Int.tmod (m : Int) 4 = 1 := by rw [Int.tmod_eq_emod_of_nonneg (by omega)]; omega
                have hwa : IntKind.i64.wrap (a : Int) = (a : Int) := IntWalk.i64_in _ (by omega)
                have hwc : IntKind.i64.wrap 1 = 1 := by decide
                have hwd : IntKind.i64.wrap 4 = 4 := by decide
                have hai : (a : Int) < 11 := by omega
                have hOM : a * 16 + 4 = 4 * m := by omega
                clear hma ha
                go_wp2_with fail
                apply wp_region_eff _ _ HI0.out (hm := by kernel_rfl)
                case h =>
                  (apply SeqF.pure; (focus (first | rfl | (go_simp; done) | (simp [Region.wanted, yielded]; done))); (focus (intro w; go_simp; with_reducible rfl)); go_simp)
                  (apply SeqF.pure; (focus (first | rfl | (go_simp; done) | (simp [Region.wanted, yielded]; done))); (focus (intro w; go_simp; with_reducible rfl)); go_simp)
                  (apply SeqF.pure; (focus (first | rfl | (go_simp; done) | (simp [Region.wanted, yielded]; done))); (focus (intro w; go_simp; with_reducible rfl)); go_simp)
                  (apply SeqF.pure; (focus (first | rfl | (go_simp; done) | (simp [Region.wanted, yielded]; done))); (focus (intro w; go_simp; with_reducible rfl)); go_simp)
                  (apply SeqF.pure; (focus (first | rfl | (go_simp; done) | (simp [Region.wanted, yielded]; done))); (focus (intro w; go_simp; with_reducible rfl)); go_simp)
                  (apply SeqF.pure; (focus (first | rfl | (go_simp; done) | (simp [Region.wanted, yielded]; done))); (focus (intro w; go_simp; with_reducible rfl)); go_simp)
                  (apply SeqF.pure; (focus (first | rfl | (go_simp; done) | (simp [Region.wanted, yielded]; done))); (focus (intro w; go_simp; with_reducible rfl)); go_simp)
                  (apply SeqF.pure; (focus (first | rfl | (go_simp; done) | (simp [Region.wanted, yielded]; done))); (focus (intro w; go_simp; with_reducible rfl)); go_simp)
                  (apply SeqF.pure; (focus (first | rfl | (go_simp; done) | (simp [Region.wanted, yielded]; done))); (focus (intro w; go_simp; with_reducible rfl)); go_simp)
                  (apply SeqF.pure; (focus (first | rfl | (go_simp; done) | (simp [Region.wanted, yielded]; done))); (focus (intro w; go_simp; with_reducible rfl)); go_simp)
                  (apply SeqF.pure; (focus (first | rfl | (go_simp; done) | (simp [Region.wanted, yielded]; done))); (focus (intro w; go_simp; with_reducible rfl)); go_simp)
                  apply SeqF.copyR [0] 0 (N + 1) 4 (.cells (rwb 688 (cphF fun j => if j < 4 * m then kw key j else 0)) 43 (0, 0)) rfl (by simp) (.cells (rwb 688 (cphF fun j => if j < 4 * (m + 1) then kw key j else 0)) 43 (0, 0))
                  · (first | rfl | (go_simp; done) | (simp [Region.wanted, yielded]; done))
                  · exact fun γ' W hg hI hW => ⟨_, exec_copy rfl rfl rfl (run_copy_ovr (G := G4 v0 v1 v2 v3) hW ((hI.far T (lt_of_heap HT0.out) (by omega)).trans HT0.out) (by decide) (by omega) (by omega) (fun j _ => by rw [Nat.zero_add])), by rw [rwb_congr (fun j hj => cph_step key m (4 * m) rfl hml _ HG4.out j)]; exact only_setRow hW⟩
                  go_simp
                  apply SeqF.done
                  intro w9 hI9
                  have HC9 := Lib.hid (hI9.here 0 (N + 1) _ (Gh.set_here _ _ _)).1
                  have HL9 := Lib.hid (hI9.belowS HL0.out HL0.out.size (by rintro g rfl; omega))
                  clear hI9
                  go_simp
                  go_wp2_with fail
                  go_roundw
                  case rel =>
                    first
                      | exact ⟨m + 1, by omega, by go_num, HC9, HL9⟩
                      | ((repeat apply Exists.intro); refine ⟨?_, rfl⟩; exact ⟨m + 1, by omega, by go_num, HC9, HL9⟩)
                  case measure =>
                    simp [intOf]
                    omega
                case hl => rfl
                case ho => kernel_rfl
              · have hq : (m : Int) / 4 = (a : Int) := by omega
                have hrm : (m : Int) % 4 = 2 := by omega
                have hrt : Int.tmod (m : Int) 4 = 2 := by rw [Int.tmod_eq_emod_of_nonneg (by omega)]; omega
                have hwa : IntKind.i64.wrap (a : Int) = (a : Int) := IntWalk.i64_in _ (by omega)
                have hwc : IntKind.i64.wrap 2 = 2 := by decide
                have hwd : IntKind.i64.wrap 8 = 8 := by decide
                have hai : (a : Int) < 11 := by omega
                have hOM : a * 16 + 8 = 4 * m := by omega
                clear hma ha
                go_wp2_with fail
                apply wp_region_eff _ _ HI0.out (hm := by kernel_rfl)
                case h =>
                  (apply SeqF.pure; (focus (first | rfl | (go_simp; done) | (simp [Region.wanted, yielded]; done))); (focus (intro w; go_simp; with_reducible rfl)); go_simp)
                  (apply SeqF.pure; (focus (first | rfl | (go_simp; done) | (simp [Region.wanted, yielded]; done))); (focus (intro w; go_simp; with_reducible rfl)); go_simp)
                  (apply SeqF.pure; (focus (first | rfl | (go_simp; done) | (simp [Region.wanted, yielded]; done))); (focus (intro w; go_simp; with_reducible rfl)); go_simp)
                  (apply SeqF.pure; (focus (first | rfl | (go_simp; done) | (simp [Region.wanted, yielded]; done))); (focus (intro w; go_simp; with_reducible rfl)); go_simp)
                  (apply SeqF.pure; (focus (first | rfl | (go_simp; done) | (simp [Region.wanted, yielded]; done))); (focus (intro w; go_simp; with_reducible rfl)); go_simp)
                  (apply SeqF.pure; (focus (first | rfl | (go_simp; done) | (simp [Region.wanted, yielded]; done))); (focus (intro w; go_simp; with_reducible rfl)); go_simp)
                  (apply SeqF.pure; (focus (first | rfl | (go_simp; done) | (simp [Region.wanted, yielded]; done))); (focus (intro w; go_simp; with_reducible rfl)); go_simp)
                  (apply SeqF.pure; (focus (first | rfl | (go_simp; done) | (simp [Region.wanted, yielded]; done))); (focus (intro w; go_simp; with_reducible rfl)); go_simp)
                  (apply SeqF.pure; (focus (first | rfl | (go_simp; done) | (simp [Region.wanted, yielded]; done))); (focus (intro w; go_simp; with_reducible rfl)); go_simp)
                  (apply SeqF.pure; (focus (first | rfl | (go_simp; done) | (simp [Region.wanted, yielded]; done))); (focus (intro w; go_simp; with_reducible rfl)); go_simp)
                  (apply SeqF.pure; (focus (first | rfl | (go_simp; done) | (simp [Region.wanted, yielded]; done))); (focus (intro w; go_simp; with_reducible rfl)); go_simp)
                  apply SeqF.copyR [0] 0 (N + 1) 4 (.cells (rwb 688 (cphF fun j => if j < 4 * m then kw key j else 0)) 43 (0, 0)) rfl (by simp) (.cells (rwb 688 (cphF fun j => if j < 4 * (m + 1) then kw key j else 0)) 43 (0, 0))
                  · (first | rfl | (go_simp; done) | (simp [Region.wanted, yielded]; done))
                  · exact fun γ' W hg hI hW => ⟨_, exec_copy rfl rfl rfl (run_copy_ovr (G := G4 v0 v1 v2 v3) hW ((hI.far T (lt_of_heap HT0.out) (by omega)).trans HT0.out) (by decide) (by omega) (by omega) (fun j _ => by rw [Nat.zero_add])), by rw [rwb_congr (fun j hj => cph_step key m (4 * m) rfl hml _ HG4.out j)]; exact only_setRow hW⟩
                  go_simp
                  apply SeqF.done
                  intro w9 hI9
                  have HC9 := Lib.hid (hI9.here 0 (N + 1) _ (Gh.set_here _ _ _)).1
                  have HL9 := Lib.hid (hI9.belowS HL0.out HL0.out.size (by rintro g rfl; omega))
                  clear hI9
                  go_simp
                  go_wp2_with fail
                  go_roundw
                  case rel =>
                    first
                      | exact ⟨m + 1, by omega, by go_num, HC9, HL9⟩
                      | ((repeat apply Exists.intro); refine ⟨?_, rfl⟩; exact ⟨m + 1, by omega, by go_num, HC9, HL9⟩)
                  case measure =>
                    simp [intOf]
                    omega
                case hl => rfl
                case ho => kernel_rfl
              · have hq : (m : Int) / 4 = (a : Int) := by omega
                have hrm : (m : Int) % 4 = 3 := by omega
                have hrt : Int.tmod (m : Int) 4 = 3 := by rw [Int.tmod_eq_emod_of_nonneg (by omega)]; omega
                have hwa : IntKind.i64.wrap (a : Int) = (a : Int) := IntWalk.i64_in _ (by omega)
                have hwc : IntKind.i64.wrap 3 = 3 := by decide
                have hwd : IntKind.i64.wrap 12 = 12 := by decide
                have hai : (a : Int) < 11 := by omega
                have hOM : a * 16 + 12 = 4 * m := by omega
                clear hma ha
                go_wp2_with fail
                apply wp_region_eff _ _ HI0.out (hm := by kernel_rfl)
                case h =>
                  (apply SeqF.pure; (focus (first | rfl | (go_simp; done) | (simp [Region.wanted, yielded]; done))); (focus (intro w; go_simp; with_reducible rfl)); go_simp)
                  (apply SeqF.pure; (focus (first | rfl | (go_simp; done) | (simp [Region.wanted, yielded]; done))); (focus (intro w; go_simp; with_reducible rfl)); go_simp)
                  (apply SeqF.pure; (focus (first | rfl | (go_simp; done) | (simp [Region.wanted, yielded]; done))); (focus (intro w; go_simp; with_reducible rfl)); go_simp)
                  (apply SeqF.pure; (focus (first | rfl | (go_simp; done) | (simp [Region.wanted, yielded]; done))); (focus (intro w; go_simp; with_reducible rfl)); go_simp)
                  (apply SeqF.pure; (focus (first | rfl | (go_simp; done) | (simp [Region.wanted, yielded]; done))); (focus (intro w; go_simp; with_reducible rfl)); go_simp)
                  (apply SeqF.pure; (focus (first | rfl | (go_simp; done) | (simp [Region.wanted, yielded]; done))); (focus (intro w; go_simp; with_reducible rfl)); go_simp)
                  (apply SeqF.pure; (focus (first | rfl | (go_simp; done) | (simp [Region.wanted, yielded]; done))); (focus (intro w; go_simp; with_reducible rfl)); go_simp)
                  (apply SeqF.pure; (focus (first | rfl | (go_simp; done) | (simp [Region.wanted, yielded]; done))); (focus (intro w; go_simp; with_reducible rfl)); go_simp)
                  (apply SeqF.pure; (focus (first | rfl | (go_simp; done) | (simp [Region.wanted, yielded]; done))); (focus (intro w; go_simp; with_reducible rfl)); go_simp)
                  (apply SeqF.pure; (focus (first | rfl | (go_simp; done) | (simp [Region.wanted, yielded]; done))); (focus (intro w; go_simp; with_reducible rfl)); go_simp)
                  (apply SeqF.pure; (focus (first | rfl | (go_simp; done) | (simp [Region.wanted, yielded]; done))); (focus (intro w; go_simp; with_reducible rfl)); go_simp)
                  apply SeqF.copyR [0] 0 (N + 1) 4 (.cells (rwb 688 (cphF fun j => if j < 4 * m then kw key j else 0)) 43 (0, 0)) rfl (by simp) (.cells (rwb 688 (cphF fun j => if j < 4 * (m + 1) then kw key j else 0)) 43 (0, 0))
                  · (first | rfl | (go_simp; done) | (simp [Region.wanted, yielded]; done))
                  · exact fun γ' W hg hI hW => ⟨_, exec_copy rfl rfl rfl (run_copy_ovr (G := G4 v0 v1 v2 v3) hW ((hI.far T (lt_of_heap HT0.out) (by omega)).trans HT0.out) (by decide) (by omega) (by omega) (fun j _ => by rw [Nat.zero_add])), by rw [rwb_congr (fun j hj => cph_step key m (4 * m) rfl hml _ HG4.out j)]; exact only_setRow hW⟩
                  go_simp
                  apply SeqF.done
                  intro w9 hI9
                  have HC9 := Lib.hid (hI9.here 0 (N + 1) _ (Gh.set_here _ _ _)).1
                  have HL9 := Lib.hid (hI9.belowS HL0.out HL0.out.size (by rintro g rfl; omega))
                  clear hI9
                  go_simp
                  go_wp2_with fail
                  go_roundw
                  case rel =>
                    first
                      | exact ⟨m + 1, by omega, by go_num, HC9, HL9⟩
                      | ((repeat apply Exists.intro); refine ⟨?_, rfl⟩; exact ⟨m + 1, by omega, by go_num, HC9, HL9⟩)
                  case measure =>
                    simp [intOf]
                    omega
                case hl => rfl
                case ho => kernel_rfl
            · obtain rfl : m = 44 := by omega
              have HC2 : Hid (wr.heap[N + 1]? = some (.cells (rwb 688 (cphF (kw key))) 43 (0, 0))) := Lib.hid (by
                rw [HC.out, rwb_congr (f := cphF fun j => if j < 4 * 44 then kw key j else 0) (g := cphF (kw key)) (fun j hj => ?_)]
                unfold cphF
                by_cases h : j < 176
                · rw [if_pos h, if_pos h]
                  exact if_pos (by omega)
                · rw [if_neg h, if_neg h])
              clear HC
              go_wp2_with fail
              go_ret
              exact ⟨⟨N + 1, rfl, by omega, HC2.out⟩, HL.out⟩
end Go.Proofs.Ytppponobefljgaa
