/- What is proved: what the reference's reader answers when it is called; conditions: the reader's block holds what it is said to. -/
import Derived.Test.YtghadceeckbgpaaUtfR3
set_option linter.unusedSimpArgs false
set_option linter.unusedVariables false
namespace Go.Proofs.Ytghadceeckbgpaa
open Go.RowKit
set_option maxRecDepth 100000
set_option maxHeartbeats 4000000
/-- The reference's reader has these bytes left. -/
structure RefS (w : World) (b : Nat) (v : Value) (ks : List Int) : Prop where
  blk : w.heap[b]? = some (.cells #[v] 40 (0, 0))
  rd : BB w v ks
  apart : v.ownBlock ≠ some b
def RefR (w : World) (b : Nat) (ks : List Int) : Prop := ∃ v, RefS w b v ks
section
variable {w w' : World} {b : Nat} {v : Value} {ks : List Int}
theorem RefS.lt (h : RefS w b v ks) : b < w.heap.size := lt_of_heap h.blk
theorem RefR.lt (h : RefR w b ks) : b < w.heap.size := by obtain ⟨v, h⟩ := h; exact h.lt
theorem RefR.below (h : RefR w b ks) (hb : Below w.heap.size w w') : RefR w' b ks := by
  obtain ⟨v, h⟩ := h
  exact ⟨v, (hb.block b h.lt).trans h.blk, h.rd.below hb, h.apart⟩
theorem RefS.slice (h : RefS w b v ks) : ∃ A cap, v = .slice A ks.length cap := by
  obtain ⟨_, _, A, cap, e, _⟩ := h.rd
  exact ⟨A, cap, e⟩
theorem BB.grown (h : BB w v ks) (hg : w.grownBy w' (some b)) (ha : v.ownBlock ≠ some b) : BB w' v ks := h.keep fun q _ hq hlt => hg.block q hlt (fun e => ha (by rw [hq, e]))
end
def refLen (b : Nat) (w : World) : Nat := match w.heap[b]? with | some (.cells cs _ _) => lenOf (cs.getD 0 undef) | _ => 0
theorem refLen_of {w : World} {b : Nat} {v : Value} {ks : List Int} (h : RefS w b v ks) : refLen b w = ks.length := by
  obtain ⟨A, cap, rfl⟩ := h.slice
  unfold refLen
  rw [h.blk]
  rfl
theorem RefS.below {w w' : World} {b : Nat} {v : Value} {ks : List Int} (h : RefS w b v ks) (hb : Below w.heap.size w w') : RefS w' b v ks := ⟨(hb.block b h.lt).trans h.blk, h.rd.below hb, h.apart⟩
theorem RefS.ext {w w' : World} {b base : Nat} {v u : Value} {ks : List Int} (h : RefS w b v ks) (hb : b < base) (hq : ∀ q, v.ownBlock = some q → q < base) (hg : w.grownBy w' u.ownBlock) (hu : ∀ q, u.ownBlock = some q → base ≤ q) : RefS w' b v ks :=
  ⟨(hg.block b h.lt (fun e => by have := hu b e.symm; omega)).trans h.blk, h.rd.keep (fun q _ hv hlt => hg.block q hlt (fun e => by have := hu q e.symm; have := hq q hv; omega)), h.apart⟩
theorem grown_ext {w w1 w' : World} {b : Nat} {u : Value} (h : w.grownBy w1 (some b)) (hg : w1.grownBy w' u.ownBlock) (hu : ∀ q, u.ownBlock = some q → w.heap.size ≤ q) : w.grownBy w' (some b) :=
  ⟨hg.os.trans h.os, hg.tape.trans h.tape, hg.output.trans h.output, Nat.le_trans h.size hg.size, fun k hk hne => (hg.block k (Nat.lt_of_lt_of_le hk h.size) (fun e => by have := hu k e.symm; omega)).trans (h.block k hk hne)⟩
theorem restA_own (A : Option Addr) (cap n l m l' m' : Nat) : (Value.slice (restA A cap n) l m).ownBlock = (Value.slice A l' m').ownBlock := by
  unfold restA
  split
  · cases A <;> rfl
  · cases A with
    | none => rfl
    | some a =>
      simp only [Option.map_some, Value.ownBlock, Addr.add]
      split <;> rfl
theorem refend_any (b : Nat) (ks : List Int) (w : World) (h : RefR w b ks) (hl : ks.length ≤ 35184372088832) : Calls Try.prog 22 #[.pointer (some ⟨b, 0, none⟩)] w fun e w' => (∃ u, e = .returned u ∧ OwR w' w.heap.size u (decS ks)) ∧ RefS w' b (.slice none 0 0) [] ∧ w.grownBy w' (some b) := by
  obtain ⟨v, h⟩ := h
  obtain ⟨A, cap, rfl⟩ := h.slice
  have c0 : w.cell? ⟨b, 0, none⟩ = some (.slice A ks.length cap) := (cell_of_row w b 0 _ _ (0, 0) h.blk).trans rfl
  have f0 := frozen_of_row w b 0 _ _ h.blk
  have hbl := h.lt
  have HR := Lib.hid h
  clear h
  go_enter Try.func22, Try.ntmps22
  go_wp2_with fail
  refine (refdecode_any _ ks w HR.out.rd hl).mono ?_
  rintro e w1 ⟨⟨u, rfl, ho⟩, hb⟩
  have hg := (hb.block b hbl).trans HR.out.blk
  have c1 : w1.cell? ⟨b, 0, none⟩ = some (.slice A ks.length cap) := (cell_of_row w1 b 0 _ _ (0, 0) hg).trans rfl
  have f1 := frozen_of_row w1 b 0 _ _ hg
  have HB := Lib.hid hb
  have HO := Lib.hid ho
  have HG := Lib.hid hg
  clear hb ho hg c0 f0
  go_wp2_with fail
  go_ret
  exact ⟨⟨u, rfl, HO.out.set hbl _ _⟩, ⟨heap_setCell_same _ _ 0 _ _ _ HG.out, BB.nil _, by simp [Value.ownBlock]⟩, grown_set (grown_of_below HB.out _) _ _⟩
theorem refwhole (l : List Int) (hp : 0 < l.length) : ((refN l).2.2 = false ↔ (nextS l false).2 = 0) ∧ ((nextS l false).2 ≠ 0 → (refN l).1 = (nextS l false).1 ∧ (refN l).2.1 = (nextS l false).2) := by
  obtain ⟨q1, q2, q3, q4⟩ := begS_b l hp
  unfold refN nextS
  split
  · rename_i h
    simp
    omega
  · split
    · rename_i h
      rw [h.1]
      simp
    · rename_i h
      have h2 : (begS l).1 < l.length := by simp at h; omega
      simp [h2]
theorem reftake_any (b : Nat) (c : Int) (ks : List Int) (w : World) (h : RefR w b ks) (hk : ks.length ≤ 3) (hc : 0 ≤ c ∧ c ≤ 255) : Calls Try.prog 21 #[.pointer (some ⟨b, 0, none⟩), .int .u8 c] w fun e w' => (∃ u, e = .returned u ∧ OwR w' w.heap.size u (tkS (ks ++ [c])).1) ∧ (∃ v, RefS w' b v (tkS (ks ++ [c])).2 ∧ ∀ q, v.ownBlock = some q → w.heap.size ≤ q) ∧ w.grownBy w' (some b) := by
  obtain ⟨v, h⟩ := h
  obtain ⟨A, cap, rfl⟩ := h.slice
  have c0 : w.cell? ⟨b, 0, none⟩ = some (.slice A ks.length cap) := (cell_of_row w b 0 _ _ (0, 0) h.blk).trans rfl
  have f0 := frozen_of_row w b 0 _ _ h.blk
  have hbl := h.lt
  have HR := Lib.hid h
  clear h
  obtain ⟨ls, hls⟩ : ∃ ls, ks ++ [c] = ls := ⟨_, rfl⟩
  rw [hls]
  have hlen : ls.length ≤ 4 := by rw [← hls]; simp; omega
  have HLS := Lib.hid hls
  clear hls
  go_enter Try.func21, Try.ntmps21
  go_wp2_with (at_builtin; refine wpList_appB (base := w.heap.size) rfl (.tmp 10) (.tmp 14) rfl (.slice (some ⟨w.heap.size, 0, none⟩) 0 0) (.slice A ks.length cap) [] ks rfl (OwB.made w) rfl (HR.out.rd.below (by (repeat' (first | (with_reducible exact Below.refl _ _) | (with_reducible assumption) | (with_reducible refine Below.alloc ?_ ?_ _) | (with_reducible refine below_setRow ?_ ?_ _) | (with_reducible refine bl_drew ?_) | (with_reducible refine bl_drewN ?_ _) | (with_reducible refine Below.setCell ?_ ?_ _) | (with_reducible refine bl_then ?_ ?_ hb) | (with_reducible refine bl_then ?_ ?_ hb1) | (with_reducible refine bl_then ?_ ?_ hb2) | (with_reducible refine bl_then ?_ ?_ hb3) | (with_reducible refine bl_then ?_ ?_ hb4) | (with_reducible refine bl_then ?_ ?_ hb5) | (with_reducible refine bl_then ?_ ?_ hb6) | (with_reducible refine bl_then ?_ ?_ hb7) | (with_reducible refine bl_then ?_ ?_ hb8) | (with_reducible exact Nat.le_refl _) | omega | (simp only [World.size_alloc, World.size_setCell, World.size_drew, size_setRow]; omega) | (simp; omega) | (simp; done))))) ?_ ?_ ?_)
  · simp; omega
  · simp
  intro v1 w1 h1 h2 h3
  have HB1 := Lib.hid ((show Below w.heap.size w (w.alloc (.cells #[] 5)) by (repeat' (first | (with_reducible exact Below.refl _ _) | (with_reducible assumption) | (with_reducible refine Below.alloc ?_ ?_ _) | (with_reducible refine below_setRow ?_ ?_ _) | (with_reducible refine bl_drew ?_) | (with_reducible refine bl_drewN ?_ _) | (with_reducible refine Below.setCell ?_ ?_ _) | (with_reducible refine bl_then ?_ ?_ hb) | (with_reducible refine bl_then ?_ ?_ hb1) | (with_reducible refine bl_then ?_ ?_ hb2) | (with_reducible refine bl_then ?_ ?_ hb3) | (with_reducible refine bl_then ?_ ?_ hb4) | (with_reducible refine bl_then ?_ ?_ hb5) | (with_reducible refine bl_then ?_ ?_ hb6) | (with_reducible refine bl_then ?_ ?_ hb7) | (with_reducible refine bl_then ?_ ?_ hb8) | (with_reducible exact Nat.le_refl _) | omega | (simp only [World.size_alloc, World.size_setCell, World.size_drew, size_setRow]; omega) | (simp; omega) | (simp; done)))).grown h2 (by simp) (fun q hq => by simp [Value.ownBlock] at hq; omega))
  have HO1 := Lib.hid h1
  clear h1 h2 h3
  have hz1 := HB1.out.size
  go_wp2_with (at_builtin; refine wpList_appB (base := w.heap.size) rfl (.tmp 15) (.tmp 17) rfl v1 (.slice (some ⟨w1.heap.size, 0, none⟩) 1 1) ks [c] rfl (HO1.out.below (show Below w1.heap.size w1 (w1.alloc _) by (repeat' (first | (with_reducible exact Below.refl _ _) | (with_reducible assumption) | (with_reducible refine Below.alloc ?_ ?_ _) | (with_reducible refine below_setRow ?_ ?_ _) | (with_reducible refine bl_drew ?_) | (with_reducible refine bl_drewN ?_ _) | (with_reducible refine Below.setCell ?_ ?_ _) | (with_reducible refine bl_then ?_ ?_ hb) | (with_reducible refine bl_then ?_ ?_ hb1) | (with_reducible refine bl_then ?_ ?_ hb2) | (with_reducible refine bl_then ?_ ?_ hb3) | (with_reducible refine bl_then ?_ ?_ hb4) | (with_reducible refine bl_then ?_ ?_ hb5) | (with_reducible refine bl_then ?_ ?_ hb6) | (with_reducible refine bl_then ?_ ?_ hb7) | (with_reducible refine bl_then ?_ ?_ hb8) | (with_reducible exact Nat.le_refl _) | omega | (simp only [World.size_alloc, World.size_setCell, World.size_drew, size_setRow]; omega) | (simp; omega) | (simp; done))))) rfl (BB.lits (heap_alloc_last w1 _) rfl rfl (by simp [okB]; omega) (by decide)) ?_ ?_ ?_)
  · simp; omega
  · simp; omega
  intro v2 w2 h1 h2 h3
  rw [HLS.out] at h1
  have HB2 := Lib.hid ((HB1.out.alloc hz1 (.cells #[.int .u8 c] 5)).grown h2 (by simp; omega) (fun q hq => (World.ownsRow.lt HO1.out q hq).1))
  have hv2 : v2.ownBlock ≠ some b := fun hh => by
    have := (World.ownsRow.lt h1 b hh).1
    omega
  have hokl : okB ls := by
    rw [← HLS.out]
    refine HR.out.rd.ok.app ?_
    intro x hx
    obtain rfl := List.mem_singleton.1 hx
    exact hc
  have HOL := Lib.hid hokl
  obtain ⟨A2, cap2, rfl⟩ := OwB.slice h1
  have HO2 := Lib.hid (h1.rd hokl (by omega))
  have HVL := Lib.hid (fun q hq => World.ownsRow.lt h1 q hq)
  clear h1 h2 h3 hokl HO1
  have hg2 := (HB2.out.block b hbl).trans HR.out.blk
  have c2 : w2.cell? ⟨b, 0, none⟩ = some (.slice A ks.length cap) := (cell_of_row w2 b 0 _ _ (0, 0) hg2).trans rfl
  have f2 := frozen_of_row w2 b 0 _ _ hg2
  have HG2 := Lib.hid hg2
  clear hg2 c0 f0
  go_wp2_with fail
  have hb3 : (w2.setCell ⟨b, 0, none⟩ (.slice A2 ls.length cap2)).heap[b]? = some (.cells #[.slice A2 ls.length cap2] 40 (0, 0)) := heap_setCell_same _ _ 0 _ _ _ HG2.out
  have HS3 : Hid (RefS (w2.setCell ⟨b, 0, none⟩ (.slice A2 ls.length cap2)) b (.slice A2 ls.length cap2) ls) := Lib.hid ⟨hb3, HO2.out.keep fun q _ hq hlt => by rw [heap_setCell_if, if_neg (fun e => hv2 (by rw [hq, e]))], hv2⟩
  have HG3 := Lib.hid (grown_set (grown_of_below HB2.out (some b)) 0 (.slice A2 ls.length cap2))
  have hz2 := HB2.out.size
  have hz3 : w.heap.size ≤ (w2.setCell ⟨b, 0, none⟩ (.slice A2 ls.length cap2)).heap.size := by rw [World.size_setCell]; exact hz2
  have HV3 : Hid (∀ q, (Value.slice A2 ls.length cap2).ownBlock = some q → w.heap.size ≤ q ∧ q < (w2.setCell ⟨b, 0, none⟩ (.slice A2 ls.length cap2)).heap.size) := Lib.hid (fun q hq => by rw [World.size_setCell]; exact HVL.out q hq)
  clear hb3 c2 f2 HG2 HO2 HB2 HB1 hz2 HR hv2
  generalize w2.setCell ⟨b, 0, none⟩ (.slice A2 ls.length cap2) = w3 at *
  have hb3 : b < w3.heap.size := by omega
  go_loopw [5] (fun l wr => ∃ (cs rest : List Int) (vr : Value), Hid (RefS wr b vr rest) ∧ Hid (∀ q, vr.ownBlock = some q → w.heap.size ≤ q ∧ q < w3.heap.size) ∧ cs.length + rest.length ≤ 4 ∧ Hid (OwR wr w3.heap.size l cs) ∧ Hid (tkS ls = (cs ++ (tkS rest).1, (tkS rest).2)) ∧ Hid (okR cs) ∧ Hid (w3.grownBy wr (some b)) ∧ Hid (okB rest)) (fun _ wr => refLen b wr)
  case atStart => exact ⟨[], ls, _, HS3, HV3, by simpa using hlen, Lib.hid (OwR.nil _ _), Lib.hid rfl, Lib.hid okR.nil, Lib.hid (grown_of_below (Below.refl _ _) _), HOL⟩
  case round =>
    obtain ⟨cs, rest, vr, HS, HQ, hl, HO, HC, HOK, HG, HOR⟩ := hrel
    clear HS3 HV3
    have HLN := Lib.hid (refLen_of HS.out)
    obtain ⟨A, cap, rfl⟩ := HS.out.slice
    have ct : wr.cell? ⟨b, 0, none⟩ = some (.slice A rest.length cap) := (cell_of_row wr b 0 _ _ (0, 0) HS.out.blk).trans rfl
    by_cases hp : 0 < rest.length
    · have hnb := nextS_b rest false hp
      have hnc := nextS_c rest false HOR.out hp
      obtain ⟨hw1, hw2⟩ := refwhole rest hp
      have HNX := Lib.hid (refnext_any _ rest wr HS.out.rd hp)
      by_cases hn : (nextS rest false).2 = 0
      · have HT := Lib.hid (tkS_stop (l := rest) (fun h => h.2 hn))
        rw [hw1.2 hn] at HNX
        have HT2 := Lib.hid (HC.out.trans (by rw [HT.out, List.append_nil]))
        clear hw1 hw2 hn hnb hnc
        generalize (refN rest).1 = c1 at *
        generalize (refN rest).2.1 = n1 at *
        go_wp2_with fail
        refine HNX.out.mono ?_
        rintro e w6 ⟨rfl, hb⟩
        have HO6 := Lib.hid (HO.out.below hb)
        have HG6 := Lib.hid (grown_below HG.out hb)
        have HS6 := Lib.hid (HS.out.below hb)
        clear hb HNX HO HG
        go_wp2_with fail
        go_ret
        rw [HT2.out]
        exact ⟨⟨_, rfl, HO6.out.mono hz3⟩, ⟨_, HS6.out, fun q hq => (HQ.out q hq).1⟩, grown_new HG3.out HG6.out (.inl rfl)⟩
      · have HDC := Lib.hid (tkS_next hp hn)
        have hwt : (refN rest).2.2 = true := by
          cases h : (refN rest).2.2 with
          | true => rfl
          | false => exact absurd (hw1.1 h) hn
        rw [hwt, (hw2 hn).1, (hw2 hn).2] at HNX
        have hrr := fun W => run_restAt A rest.length cap (nextS rest false).2 hnb.1 W
        have hln : rest.length - (nextS rest false).2 < rest.length := by omega
        have hnl := hnb.1
        clear hwt hw1 hw2 hn
        have HNB := Lib.hid hnb
        clear hnb
        generalize (nextS rest false).1 = c1 at *
        generalize (nextS rest false).2 = n1 at *
        have HRRn := Lib.hid hrr
        clear hrr
        go_wp2_with fail
        refine HNX.out.mono ?_
        rintro e w6 ⟨rfl, hb⟩
        have HO6 := Lib.hid (HO.out.below hb)
        have HG6 := Lib.hid (grown_below HG.out hb)
        have HS6 := Lib.hid (HS.out.below hb)
        clear hb HNX HO HG HS
        have hz6 := HG6.out.size
        go_wp2_with (at_builtin; refine wpList_appR (base := w3.heap.size) rfl (.tmp 38) (.tmp 40) rfl u5 (.slice (some ⟨w6.heap.size, 0, none⟩) 1 1) cs [c1] rfl ?_ rfl ?_ ?_ ?_ ?_)
        · exact HO6.out.below (w1 := w6.alloc (.cells #[.int .i32 c1] 21)) (by (repeat' (first | (with_reducible exact Below.refl _ _) | (with_reducible assumption) | (with_reducible refine Below.alloc ?_ ?_ _) | (with_reducible refine below_setRow ?_ ?_ _) | (with_reducible refine bl_drew ?_) | (with_reducible refine bl_drewN ?_ _) | (with_reducible refine Below.setCell ?_ ?_ _) | (with_reducible refine bl_then ?_ ?_ hb) | (with_reducible refine bl_then ?_ ?_ hb1) | (with_reducible refine bl_then ?_ ?_ hb2) | (with_reducible refine bl_then ?_ ?_ hb3) | (with_reducible refine bl_then ?_ ?_ hb4) | (with_reducible refine bl_then ?_ ?_ hb5) | (with_reducible refine bl_then ?_ ?_ hb6) | (with_reducible refine bl_then ?_ ?_ hb7) | (with_reducible refine bl_then ?_ ?_ hb8) | (with_reducible exact Nat.le_refl _) | omega | (simp only [World.size_alloc, World.size_setCell, World.size_drew, size_setRow]; omega) | (simp; omega) | (simp; done))))
        · exact RR.made w6 (by omega)
        · simp; omega
        · simp; omega
        · intro v7 w7 h1 h2 h3
          have hu5 : ∀ q, u5.ownBlock = some q → w3.heap.size ≤ q := fun q hq => (World.ownsRow.lt HO6.out q hq).1
          have HS7 := Lib.hid ((HS6.out.below (show Below w6.heap.size w6 (w6.alloc (.cells #[.int .i32 c1] 21)) by (repeat' (first | (with_reducible exact Below.refl _ _) | (with_reducible assumption) | (with_reducible refine Below.alloc ?_ ?_ _) | (with_reducible refine below_setRow ?_ ?_ _) | (with_reducible refine bl_drew ?_) | (with_reducible refine bl_drewN ?_ _) | (with_reducible refine Below.setCell ?_ ?_ _) | (with_reducible refine bl_then ?_ ?_ hb) | (with_reducible refine bl_then ?_ ?_ hb1) | (with_reducible refine bl_then ?_ ?_ hb2) | (with_reducible refine bl_then ?_ ?_ hb3) | (with_reducible refine bl_then ?_ ?_ hb4) | (with_reducible refine bl_then ?_ ?_ hb5) | (with_reducible refine bl_then ?_ ?_ hb6) | (with_reducible refine bl_then ?_ ?_ hb7) | (with_reducible refine bl_then ?_ ?_ hb8) | (with_reducible exact Nat.le_refl _) | omega | (simp only [World.size_alloc, World.size_setCell, World.size_drew, size_setRow]; omega) | (simp; omega) | (simp; done))))).ext hb3 (fun q hq => (HQ.out q hq).2) h2 hu5)
          have HG7 := Lib.hid (grown_ext (grown_below HG6.out (show Below w6.heap.size w6 (w6.alloc (.cells #[.int .i32 c1] 21)) by (repeat' (first | (with_reducible exact Below.refl _ _) | (with_reducible assumption) | (with_reducible refine Below.alloc ?_ ?_ _) | (with_reducible refine below_setRow ?_ ?_ _) | (with_reducible refine bl_drew ?_) | (with_reducible refine bl_drewN ?_ _) | (with_reducible refine Below.setCell ?_ ?_ _) | (with_reducible refine bl_then ?_ ?_ hb) | (with_reducible refine bl_then ?_ ?_ hb1) | (with_reducible refine bl_then ?_ ?_ hb2) | (with_reducible refine bl_then ?_ ?_ hb3) | (with_reducible refine bl_then ?_ ?_ hb4) | (with_reducible refine bl_then ?_ ?_ hb5) | (with_reducible refine bl_then ?_ ?_ hb6) | (with_reducible refine bl_then ?_ ?_ hb7) | (with_reducible refine bl_then ?_ ?_ hb8) | (with_reducible exact Nat.le_refl _) | omega | (simp only [World.size_alloc, World.size_setCell, World.size_drew, size_setRow]; omega) | (simp; omega) | (simp; done))))) h2 hu5)
          have HO7 := Lib.hid h1
          clear h1 h2 h3 hu5 HS6 HG6 HO6 ct
          have ct : w7.cell? ⟨b, 0, none⟩ = some (.slice A rest.length cap) := (cell_of_row w7 b 0 _ _ (0, 0) HS7.out.blk).trans rfl
          have ft := frozen_of_row w7 b 0 _ _ HS7.out.blk
          have hrr := HRRn.out
          go_wp2_with fail
          have HS8 : Hid (RefS (w7.setCell ⟨b, 0, none⟩ (.slice (restA A cap n1) (rest.length - n1) (cap - n1))) b (.slice (restA A cap n1) (rest.length - n1) (cap - n1)) (rest.drop n1)) := Lib.hid
            ⟨heap_setCell_same _ _ 0 _ _ _ HS7.out.blk, (HS7.out.rd.rest hp hnl).keep (fun q _ hq hlt => by rw [heap_setCell_if, if_neg (fun e => HS7.out.apart (by rw [← restA_own A cap n1 (rest.length - n1) (cap - n1) rest.length cap, hq, e]))]), by rw [restA_own A cap n1 _ _ rest.length cap]; exact HS7.out.apart⟩
          go_roundw
          case rel =>
            first
              | refine ⟨cs ++ [c1], rest.drop n1, _, HS8, Lib.hid (fun q hq => HQ.out q ?_), by simp; omega, Lib.hid (HO7.out.set hb3 _ _), Lib.hid ?_, Lib.hid (HOK.out.app ?_), Lib.hid (grown_set HG7.out _ _), Lib.hid (HOR.out.drop _)⟩
              | ((repeat apply Exists.intro); refine ⟨?_, rfl⟩; refine ⟨cs ++ [c1], rest.drop n1, _, HS8, Lib.hid (fun q hq => HQ.out q ?_), by simp; omega, Lib.hid (HO7.out.set hb3 _ _), Lib.hid ?_, Lib.hid (HOK.out.app ?_), Lib.hid (grown_set HG7.out _ _), Lib.hid (HOR.out.drop _)⟩)
            · rw [← restA_own A cap n1 (rest.length - n1) (cap - n1) rest.length cap]
              exact hq
            · rw [HC.out, HDC.out]
              simp
            · intro x hx
              obtain rfl := List.mem_singleton.1 hx
              omega
          case measure =>
            rw [refLen_of HS8.out]
            rw [HLN.out, List.length_drop]
            exact hln
    · have HT := Lib.hid (tkS_stop (l := rest) (fun h => hp h.1))
      have HT2 := Lib.hid (HC.out.trans (by rw [HT.out, List.append_nil]))
      have h0 : ¬ (0 : Int) < (rest.length : Int) := by omega
      go_wp2_with fail
      go_ret
      rw [HT2.out]
      exact ⟨⟨_, rfl, HO.out.mono hz3⟩, ⟨_, HS.out, fun q hq => (HQ.out q hq).1⟩, grown_new HG3.out HG.out (.inl rfl)⟩
end Go.Proofs.Ytghadceeckbgpaa
