/- What is proved: the law NetworkArrives, as a call; conditions: the slices read as they are said to. -/
import Derived.Test.YthebhbcfacoknaaNet6
set_option linter.unusedSimpArgs false
set_option linter.unusedVariables false
namespace Go.Proofs.Ythebhbcfacoknaa
open Go.RowKit
open Go.Maps (Keyed)
set_option maxRecDepth 100000
set_option maxHeartbeats 2000000
theorem Net.ext {w : World} {lab : Nat → Nat} {N : Nat} {s : NS} (h : Net w lab N s) {w1 : World} (hb : Below w.heap.size w w1) : Net w1 (Go.Proofs.Ythebhbcfacoknaa.ext lab w.heap.size) N s := h.keep (fun g hg _ _ => hb.block g hg) (fun g hg => ext_old lab hg)
theorem Net.spoiled {w w1 : World} {lab : Nat → Nat} {N : Nat} {s : NS} (h : Net w lab N s) {v : Value} (hg : w.grownBy w1 v.ownBlock) (hl : ∀ b, v.ownBlock = some b → lab b = 0) : Net w1 lab N s :=
  h.keep (fun g hlt h1 _ => hg.block g hlt (fun e => by have := hl g e.symm; omega)) (fun _ _ => rfl)
theorem arrives_law (l : Value) (L : List (List Int)) (w : World) (h : LR w (fun _ => 0) l L) (hn : L.length * 24 ≤ 140737488351232) (hlen : ∀ i, i < L.length → (L.getD i []).length ≤ 140737488351232) :
    Calls Try.prog 3 #[l] w fun e w' => e = .returned (.bool true) ∧ Below w.heap.size w w' := by
  have HL := Lib.hid h
  have HLEN := Lib.hid hlen
  obtain ⟨A, cap, hv, hK, _⟩ := h
  have hl0 : l = .slice A L.length cap := hv
  subst hl0
  clear hlen hv
  go_enter Try.func3, Try.ntmps3
  go_wp2_with fail
  refine (new_any (fun _ => 0) w).mono ?_
  rintro e w1 ⟨rfl, hn1, hb1, hz1⟩
  obtain ⟨lab, HN1, hlab0⟩ : ∃ lab : Nat → Nat, Hid (Net w1 lab (w.heap.size + 1) ⟨[], [], 0, 0⟩) ∧ ∀ g, g < w.heap.size → lab g = 0 := ⟨_, Lib.hid hn1, fun g hg => by
    show (if g = w.heap.size + 1 then 1 else if g = w.heap.size then 2 else ext (fun _ => 0) w.heap.size g) = 0
    rw [if_neg (by omega), if_neg (by omega)]
    unfold ext
    split <;> rfl⟩
  have HB1 := Lib.hid hb1
  have HLAB := Lib.hid hlab0
  clear hn1 hb1 hlab0
  generalize hN : w.heap.size + 1 = N at *
  go_wp2_with fail
  go_loopw [4] (fun i wr => ∃ (k : Nat) (lab' : Nat → Nat), k ≤ L.length ∧ i = .int .i64 k ∧ Hid (∀ g, g < w.heap.size → lab' g = 0) ∧ Hid (Net wr lab' N ⟨[], L.take k, 0, 0⟩) ∧ Hid (Below w.heap.size w wr)) (fun i _ => L.length - (intOf i).toNat)
  case atStart => exact ⟨0, lab, Nat.zero_le _, rfl, HLAB.out, HN1.out, HB1.out⟩
  case round =>
    obtain ⟨k, lab1, hk, rfl, HLB, HNr, HB⟩ := hrel
    by_cases hlt : k < L.length
    · have hLr := HL.out.keep (lab1 := fun _ => 0) (w1 := wr) (fun g hg _ => HB.out.block g hg) (fun _ _ => rfl)
      obtain ⟨A', cap', e', _, hi⟩ := hLr
      simp only [Value.slice.injEq] at e'
      obtain ⟨rfl, _, rfl⟩ := e'
      obtain ⟨b, off, u, rfl, hb0, hcu, hu, _⟩ := hi k hlt
      have hxl := HLEN.out k hlt
      clear hi
      obtain ⟨xs, hxs⟩ : ∃ xs, L.getD k [] = xs := ⟨_, rfl⟩
      rw [hxs] at hu hxl
      have HXS := Lib.hid hxs
      have HU := Lib.hid hu
      have hNw : N < wr.heap.size := HNr.out.lt
      have hwz := HB.out.size
      clear hxs hu
      go_wp2_with fail
      refine (copy_bytes u xs _ HU.out).mono ?_
      rintro e w2 ⟨⟨v, rfl, hv⟩, hb2⟩
      have HV2 := Lib.hid hv
      have HN2 := Lib.hid (HNr.out.ext hb2)
      have HB2 := Lib.hid (bl_then HB.out hwz hb2)
      have hz2 := hb2.size
      obtain ⟨vA, vc, hvA⟩ : ∃ A c, v = .slice A xs.length c := by obtain ⟨A, c, h, _⟩ := RdI.of_ints rfl hv; exact ⟨A, c, h⟩
      subst hvA
      clear hv hb2
      go_wp2_with fail
      have hal : Below w2.heap.size w2 (w2.alloc (.cells #[.slice vA xs.length vc] 25)) := by (repeat' (first | (with_reducible exact Below.refl _ _) | (with_reducible assumption) | (with_reducible refine Below.alloc ?_ ?_ _) | (with_reducible refine below_setRow ?_ ?_ _) | (with_reducible refine bl_drew ?_) | (with_reducible refine bl_drewN ?_ _) | (with_reducible refine Below.setCell ?_ ?_ _) | (with_reducible refine bl_then ?_ ?_ hb) | (with_reducible refine bl_then ?_ ?_ hb1) | (with_reducible refine bl_then ?_ ?_ hb2) | (with_reducible refine bl_then ?_ ?_ hb3) | (with_reducible refine bl_then ?_ ?_ hb4) | (with_reducible refine bl_then ?_ ?_ hb5) | (with_reducible refine bl_then ?_ ?_ hb6) | (with_reducible refine bl_then ?_ ?_ hb7) | (with_reducible refine bl_then ?_ ?_ hb8) | (with_reducible exact Nat.le_refl _) | omega | (simp only [World.size_alloc, World.size_setCell, World.size_drew, size_setRow]; omega) | (simp; omega) | (simp; done)))
      have hz3 : (w2.alloc (.cells #[.slice vA xs.length vc] 25)).heap.size = w2.heap.size + 1 := by simp
      have HN3 := Lib.hid (HN2.out.keep (lab1 := ext lab1 wr.heap.size) (fun g hg _ _ => hal.block g hg) (fun _ _ => rfl))
      have HV3 := Lib.hid (HV2.out.below hal)
      have HB3 := Lib.hid (bl_then HB2.out (by omega) hal)
      have hLR : LR (w2.alloc (.cells #[.slice vA xs.length vc] 25)) (ext lab1 wr.heap.size) (.slice (some ⟨w2.heap.size, 0, none⟩) 1 1) [xs] := by
        refine ⟨_, 1, rfl, by simp, fun i hi => ?_⟩
        have hi : i = 0 := by simpa using hi
        subst hi
        refine ⟨_, 0, _, rfl, ext_new lab1 hz2, (cell_of_row _ _ 0 _ _ (0, 0) (heap_alloc_last w2 _)).trans rfl, HV3.out.rd HU.out.ok HU.out.len, fun g _ hg => ext_new lab1 (World.ownsRow.lt HV3.out g hg).1⟩
      generalize (w2.alloc (.cells #[.slice vA xs.length vc] 25)) = w3 at hal hz3 HN3 HV3 HB3 hLR ⊢
      have h0 : (L.take k).length = k := by rw [List.length_take]; omega
      refine (put_2 (ext lab1 wr.heap.size) N ⟨[], L.take k, 0, 0⟩ 2 _ [xs] w3 HN3.out rfl hLR (by simp only [h0, List.length_nil, List.length_singleton]; omega)).mono ?_
      rintro e w4 ⟨rfl, lab4, hlab4, hn4, hf4⟩
      have hx0 : ∀ g, g < w.heap.size → ext lab1 wr.heap.size g = 0 := fun g hg => (ext_old lab1 (by omega)).trans (HLB.out g hg)
      have HB4 := Lib.hid (fr_below HB3.out hf4 (by omega) hx0)
      have hvb : ∀ q, (Value.slice vA xs.length vc).ownBlock = some q → wr.heap.size ≤ q ∧ q < w3.heap.size := World.ownsRow.lt HV3.out
      have HV4 : Hid (OwB w4 wr.heap.size (.slice vA xs.length vc) xs) := HV3.out.keep fun q hq hlt => hf4.block q hlt (.inl (ext_new lab1 (hvb q hq).1))
      have HN4 := Lib.hid hn4
      have HL4 : Hid (∀ g, g < w.heap.size → lab4 g = 0) := fun g hg => (hlab4 g (by omega)).trans (hx0 g hg)
      have HV40 : Hid (∀ q, (Value.slice vA xs.length vc).ownBlock = some q → lab4 q = 0) := fun q hq => (hlab4 q (hvb q hq).2).trans (ext_new lab1 (hvb q hq).1)
      have hz4 := hf4.size
      clear hn4 hlab4 hf4 hal hLR HN3 HN2 HV3 HV2 hx0
      go_wp2_with fail
      refine (spoil_bytes _ xs 3 wr.heap.size w4 HV4.out (by omega) (by omega) (by omega)).mono ?_
      rintro e w5 ⟨⟨r, rfl⟩, hg5⟩
      have HN5 := Lib.hid (HN4.out.spoiled hg5 HV40.out)
      have HB5 := Lib.hid (HB4.out.grown hg5 (by omega) (fun q hq => by have := hvb q hq; omega))
      have eK : L.take (k + 1) = L.take k ++ [xs] := by
        rw [List.take_succ_eq_append_getElem hlt, ← HXS.out, List.getD_eq_getElem?_getD, List.getElem?_eq_getElem hlt]
        rfl
      clear hg5 HV4 HV40 HN4
      go_wp2_with fail
      go_roundw
      case rel =>
        refine ⟨k + 1, lab4, by omega, by go_num, HL4.out, ?_, HB5.out⟩
        rw [eK]
        exact HN5.out
      case measure => simp [intOf] <;> omega
    · have e : k = L.length := by omega
      subst e
      rw [List.take_length] at HNr
      go_wp2_with fail
      have hw0 := HB.out.size
      clear HN1 HB1 HLAB
      go_loopw [6] (fun i wq => ∃ (k : Nat) (lab' : Nat → Nat), k ≤ L.length ∧ i = .int .i64 k ∧ Hid (Net wq lab' N ⟨[], L, 0, k⟩) ∧ Hid (Below w.heap.size w wq)) (fun i _ => L.length - (intOf i).toNat)
      case atStart => exact ⟨0, lab1, Nat.zero_le _, rfl, HNr.out, HB.out⟩
      case round =>
        clear HNr HLB HB
        obtain ⟨k, lab1, hk, rfl, HNr, HB⟩ := hrel
        by_cases hlt : k < L.length
        · obtain ⟨A', cap', e', _, hi⟩ := HL.out
          simp only [Value.slice.injEq] at e'
          obtain ⟨rfl, _, rfl⟩ := e'
          obtain ⟨b, off, u, rfl, hb0, hcw, hu, _⟩ := hi k hlt
          have hbl := block_lt_of_cell hcw
          have HCW := Lib.hid hcw
          have hcu := ((bcell HB.out).1 b _ hbl).trans hcw
          have hxl := HLEN.out k hlt
          clear hi hcw
          obtain ⟨xs, hxs⟩ : ∃ xs, L.getD k [] = xs := ⟨_, rfl⟩
          rw [hxs] at hu hxl
          have hmem : xs ∈ L := by
            rw [← hxs, List.getD_eq_getElem?_getD, List.getElem?_eq_getElem hlt]
            exact List.getElem_mem _
          have HXS := Lib.hid hxs
          have HU := Lib.hid hu
          have HMEM := Lib.hid hmem
          have hNw : N < wr.heap.size := HNr.out.lt
          have hwz := HB.out.size
          clear hxs hu hmem
          go_wp2_with fail
          refine (next_any lab1 N ⟨[], L, 0, k⟩ 2 wr HNr.out (by omega)).mono ?_
          rintro e w2 ⟨h2, hg2⟩
          rw [if_pos (show (⟨[], L, 0, k⟩ : NS).next 2 < ((⟨[], L, 0, k⟩ : NS).half 2).length from hlt)] at h2
          obtain ⟨⟨v, rfl, hv⟩, hn2⟩ := h2
          have hv : OwB w2 wr.heap.size v xs := by rw [← HXS.out]; exact hv
          have HN2 : Hid (Net w2 (ext lab1 wr.heap.size) N ⟨[], L, 0, k + 1⟩) := hn2
          have HB2 := Lib.hid (gr_below HB.out hg2 hwz (by omega))
          have hz2 := hg2.size
          have HV2 := Lib.hid hv
          have HVL : Hid (∀ q, v.ownBlock = some q → wr.heap.size ≤ q ∧ q < w2.heap.size) := World.ownsRow.lt hv
          have HXB : Hid (okB xs ∧ xs.length ≤ 140737488355328) := ⟨HU.out.ok, HU.out.len⟩
          have hbl2 : b < w2.heap.size := by omega
          have hcu2 := ((bcell HB2.out).1 b _ hbl).trans HCW.out
          clear hn2 hg2 hv HNr HB hcu
          go_wp2_with fail
          refine (same_bytes v u xs xs w2 (HV2.out.rd HXB.out.1 HXB.out.2) (HU.out.below HB2.out)).mono ?_
          rintro e w2' ⟨rfl, rfl⟩
          rw [show decide (xs = xs) = true from decide_eq_true rfl]
          go_wp2_with fail
          refine (spoil_bytes v xs 4 wr.heap.size w2 HV2.out (by omega) (by omega) (by omega)).mono ?_
          rintro e w3 ⟨⟨r, rfl⟩, hg3⟩
          have HN3 := Lib.hid (HN2.out.spoiled hg3 (fun q hq => ext_new lab1 (HVL.out q hq).1))
          have HB3 := Lib.hid (HB2.out.grown hg3 (by omega) (fun q hq => by have := HVL.out q hq; omega))
          have hz3 := hg3.size
          clear hg3 HN2 HB2 HV2 hcu2
          generalize ext lab1 wr.heap.size = lab3 at HN3
          have hk0 : (0 : Int) ≤ (k : Int) := by omega
          go_wp2_with fail
          refine (at_any lab3 N ⟨[], L, 0, k + 1⟩ 2 k w3 HN3.out (by omega)).mono ?_
          rintro e w4 ⟨h4, hb4⟩
          rw [if_pos (show (0 : Int) ≤ (k : Int) ∧ (k : Int) < (((⟨[], L, 0, k + 1⟩ : NS).half 2).length : Int) from ⟨hk0, by show (k : Int) < (L.length : Int); omega⟩)] at h4
          obtain ⟨a, rfl, ha⟩ := h4
          have ha : OwB w4 w3.heap.size a xs := by rw [← HXS.out]; exact ha
          have HA := Lib.hid ha
          have HN4 := Lib.hid (HN3.out.keep (lab1 := lab3) (fun g hg _ _ => hb4.block g hg) (fun _ _ => rfl))
          have HB4 := Lib.hid (bl_then HB3.out (by omega) hb4)
          have hz4 := hb4.size
          have hbl4 : b < w4.heap.size := by omega
          have hcu4 := ((bcell HB4.out).1 b _ hbl).trans HCW.out
          clear ha hb4 HN3 HB3
          go_wp2_with fail
          refine (same_bytes a u xs xs w4 (HA.out.rd HXB.out.1 HXB.out.2) (HU.out.below HB4.out)).mono ?_
          rintro e w4' ⟨rfl, rfl⟩
          rw [show decide (xs = xs) = true from decide_eq_true rfl]
          go_wp2_with fail
          refine (genuine_any lab3 N ⟨[], L, 0, k + 1⟩ 2 a xs w4 HN4.out (by omega) (HA.out.rd HXB.out.1 HXB.out.2)).mono ?_
          rintro e w5 ⟨rfl, hb5, hh5⟩
          have e5 : (⟨[], L, 0, k + 1⟩ : NS).mem 2 xs = true := by
            have := HMEM.out
            simp [NS.mem, this]
          rw [e5]
          have HN5 := Lib.hid (HN4.out.keep (w1 := w5) (lab1 := lab3) (fun g hg _ _ => by rw [hh5]) (fun _ _ => rfl))
          have HB5 := Lib.hid (bl_then HB4.out (by omega) hb5)
          clear hb5 hh5 HN4 HB4 HA hcu4
          go_wp2_with fail
          go_roundw
          case rel => exact ⟨k + 1, lab3, by omega, by go_num, HN5.out, HB5.out⟩
          case measure => simp [intOf] <;> omega
        · have e : k = L.length := by omega
          subst e
          have hwz := HB.out.size
          have hNw : N < wr.heap.size := HNr.out.lt
          go_wp2_with fail
          refine (next_any lab1 N ⟨[], L, 0, L.length⟩ 2 wr HNr.out (by omega)).mono ?_
          rintro e w2 ⟨h2, hg2⟩
          rw [if_neg (show ¬ (⟨[], L, 0, L.length⟩ : NS).next 2 < ((⟨[], L, 0, L.length⟩ : NS).half 2).length from Nat.lt_irrefl _)] at h2
          obtain ⟨rfl, _⟩ := h2
          have HB2 := Lib.hid (gr_below HB.out hg2 hwz (by omega))
          have hz2 := hg2.size
          clear hg2 HB
          go_wp2_with fail
          refine (anchored_any w2).mono ?_
          rintro e w3 ⟨rfl, hb3⟩
          have HB3 := Lib.hid (bl_then HB2.out (by omega) hb3)
          clear hb3 HB2
          go_wp2_with fail
          go_ret
          exact ⟨rfl, HB3.out⟩
end Go.Proofs.Ythebhbcfacoknaa
