/- What is proved: what flag and Apply of the reference of cell answer when they are called; conditions: the slice reads as it is said to. -/
import Derived.Test.YtlejmllacikmeaaCell3
set_option linter.unusedSimpArgs false
set_option linter.unusedVariables false
namespace Go.Proofs.Ytlejmllacikmeaa
open Go.RowKit
set_option maxRecDepth 100000
set_option maxHeartbeats 4000000
/-- The place of a flag. -/
def plc (p : Nat) : Nat := if p ≤ 5 then p - 1 else p - 2
def setB (b p : Nat) (on : Bool) : Nat := if p = 6 then b else if on then b ||| 2 ^ plc p else b - (if tb b (plc p) then 2 ^ plc p else 0)
def clr2 (b : Nat) : Nat := b - b % 4
theorem setB_tb {b p : Nat} (hb : b < 256) (hp1 : 1 ≤ p) (hp : p ≤ 9) (on : Bool) {j : Nat} (hj : j < 8) : tb (setB b p on) j = if p ≠ 6 ∧ j = plc p then on else tb b j := by
  have key : ∀ b : Fin 256, ∀ p : Fin 10, ∀ on : Bool, ∀ j : Fin 8, 1 ≤ p.val → tb (setB b.val p.val on) j.val = if p.val ≠ 6 ∧ j.val = plc p.val then on else tb b.val j.val := by decide +kernel
  exact key ⟨b, hb⟩ ⟨p, by omega⟩ on ⟨j, hj⟩ hp1
theorem setB_lt {b p : Nat} (hb : b < 256) (hp1 : 1 ≤ p) (hp : p ≤ 9) (on : Bool) : setB b p on < 256 := by
  have key : ∀ b : Fin 256, ∀ p : Fin 10, ∀ on : Bool, 1 ≤ p.val → setB b.val p.val on < 256 := by decide +kernel
  exact key ⟨b, hb⟩ ⟨p, by omega⟩ on hp1
theorem clr2_tb {b : Nat} (hb : b < 256) {j : Nat} (hj : j < 8) : tb (clr2 b) j = if j < 2 then false else tb b j := by
  have key : ∀ b : Fin 256, ∀ j : Fin 8, tb (clr2 b.val) j.val = if j.val < 2 then false else tb b.val j.val := by decide +kernel
  exact key ⟨b, hb⟩ ⟨j, hj⟩
theorem flB_other {n : Int} {b : Nat} (h : ¬ (1 ≤ n ∧ n ≤ 9)) (h2 : ¬ (22 ≤ n ∧ n ≤ 29)) : ∀ i, i ≤ 8 → flB n b i = b
  | 0, _ => rfl
  | i + 1, hi => by
    have ih := flB_other (n := n) (b := b) h h2 i (by omega)
    have a1 : ¬ onT i = n := by unfold onT; rcases (by omega : i = 0 ∨ i = 1 ∨ i = 2 ∨ i = 3 ∨ i = 4 ∨ i = 5 ∨ i = 6 ∨ i = 7) with rfl | rfl | rfl | rfl | rfl | rfl | rfl | rfl <;> simp <;> omega
    have a2 : ¬ offT i = n := by unfold offT; rcases (by omega : i = 0 ∨ i = 1 ∨ i = 2 ∨ i = 3 ∨ i = 4 ∨ i = 5 ∨ i = 6 ∨ i = 7) with rfl | rfl | rfl | rfl | rfl | rfl | rfl | rfl <;> simp <;> omega
    unfold flB
    rw [if_neg a2, if_neg a1, ih]
theorem flB_on {b p : Nat} (hb : b < 256) (h1 : 1 ≤ p) (h : p ≤ 9) : flB (p : Int) b 8 = setB b p true := by
  have key : ∀ b : Fin 256, ∀ p : Fin 10, 1 ≤ p.val → flB (p.val : Int) b.val 8 = setB b.val p.val true := by decide +kernel
  exact key ⟨b, hb⟩ ⟨p, by omega⟩ h1
theorem flB_off {b p : Nat} (hb : b < 256) (h1 : 3 ≤ p) (h : p ≤ 9) : flB ((p : Int) + 20) b 8 = setB b p false := by
  have key : ∀ b : Fin 256, ∀ p : Fin 10, 3 ≤ p.val → flB ((p.val : Int) + 20) b.val 8 = setB b.val p.val false := by decide +kernel
  exact key ⟨b, hb⟩ ⟨p, by omega⟩ h1
theorem flB_22 {b : Nat} (hb : b < 256) : flB 22 b 8 = clr2 b := by
  have key : ∀ b : Fin 256, flB 22 b.val 8 = clr2 b.val := by decide +kernel
  exact key ⟨b, hb⟩
theorem colF_a {n k : Int} (h : k ≤ n ∧ n < k + 8) : colF n k = (n - k, true) := if_pos h
theorem colF_b {n k : Int} (h : k + 60 ≤ n ∧ n < k + 68) : colF n k = (n - k - 52, true) := by
  unfold colF
  rw [if_neg (by omega), if_pos h]
theorem colF_c {n k : Int} (h : n = k + 9) : colF n k = (-1, true) := by
  unfold colF
  rw [if_neg (by omega), if_neg (by omega), if_pos h]
theorem colF_no {n k : Int} (h1 : ¬ (k ≤ n ∧ n < k + 8)) (h2 : ¬ (k + 60 ≤ n ∧ n < k + 68)) (h3 : ¬ n = k + 9) : colF n k = (0, false) := by
  unfold colF
  rw [if_neg h1, if_neg h2, if_neg h3]
theorem CS.off2 {w wr : World} {B n : Nat} {A : Option Addr} {zs : List Int} {s : Sty} (h : CS w wr B A n zs s) (hb : s.b < 256) : CS w ((wr.setCell ⟨B, 2, none⟩ (.bool false)).setCell ⟨B, 3, none⟩ (.bool false)) B A n zs ⟨s.fg, s.bg, clr2 s.b⟩ := by
  have e1 : (wr.setCell ⟨B, 2, none⟩ (.bool false)).heap[B]? = _ := heap_setCell_same _ _ 2 _ _ _ h.hB
  have e2 : ((wr.setCell ⟨B, 2, none⟩ (.bool false)).setCell ⟨B, 3, none⟩ (.bool false)).heap[B]? = _ := heap_setCell_same _ _ 3 _ _ _ e1
  refine ⟨h.rd.blocks fun b off hn hA => (heap_setCell_other _ ⟨_, _, _⟩ _ _ (by simpa using (h.aw _ hA).1)).trans (heap_setCell_other _ ⟨_, _, _⟩ _ _ (by simpa using (h.aw _ hA).1)), h.aw, ?_, ((heap_setCell_other _ ⟨_, _, _⟩ _ _ (by simp)).trans (heap_setCell_other _ ⟨_, _, _⟩ _ _ (by simp))).trans h.hR, (h.hL.setCell (by simp) _).setCell (by simp) _, h.sz⟩
  refine e2.trans ?_
  unfold Sty.row
  simp only [clr2_tb hb (show 0 < 8 by omega), clr2_tb hb (show 1 < 8 by omega), clr2_tb hb (show 2 < 8 by omega), clr2_tb hb (show 3 < 8 by omega), clr2_tb hb (show 4 < 8 by omega), clr2_tb hb (show 5 < 8 by omega), clr2_tb hb (show 6 < 8 by omega), clr2_tb hb (show 7 < 8 by omega)]
  rfl
theorem rflag_any (s : Sty) (p : Nat) (on : Bool) (hs : s.b < 256) (hp1 : 1 ≤ p) (hp : p ≤ 9) (w : World) : Calls Try.prog 22 #[s.val, .int .i64 p, .bool on] w fun e w' => e = .returned (Sty.mk s.fg s.bg (setB s.b p on)).val ∧ Below w.heap.size w w' := by
  obtain ⟨fg, bg, b⟩ := s
  have HT : Hid (∀ j, j < 8 → tb (setB b p on) j = if p ≠ 6 ∧ j = plc p then on else tb b j) := Lib.hid (fun j hj => setB_tb hs hp1 hp on hj)
  have HV : Hid (Value.agg #[.int .i64 fg, .int .i64 bg, .bool (if p = 1 then on else tb b 0), .bool (if p = 2 then on else tb b 1), .bool (if p = 3 then on else tb b 2), .bool (if p = 4 then on else tb b 3), .bool (if p = 5 then on else tb b 4), .bool (if p = 7 then on else tb b 5), .bool (if p = 8 then on else tb b 6), .bool (if p = 9 then on else tb b 7)] = (Sty.mk fg bg (setB b p on)).val) := Lib.hid (by
    unfold Sty.val Sty.row
    simp only [HT.out 0 (by omega), HT.out 1 (by omega), HT.out 2 (by omega), HT.out 3 (by omega), HT.out 4 (by omega), HT.out 5 (by omega), HT.out 6 (by omega), HT.out 7 (by omega)]
    rcases (by omega : p = 1 ∨ p = 2 ∨ p = 3 ∨ p = 4 ∨ p = 5 ∨ p = 6 ∨ p = 7 ∨ p = 8 ∨ p = 9) with rfl | rfl | rfl | rfl | rfl | rfl | rfl | rfl | rfl <;> rfl)
  show Calls Try.prog 22 _ w fun e w' => e = .returned (Sty.mk fg bg (setB b p on)).val ∧ Below w.heap.size w w'
  rw [← HV.out]
  unfold Sty.val Sty.row
  dsimp only
  clear HT HV hs
  generalize tb b 0 = b0
  generalize tb b 1 = b1
  generalize tb b 2 = b2
  generalize tb b 3 = b3
  generalize tb b 4 = b4
  generalize tb b 5 = b5
  generalize tb b 6 = b6
  generalize tb b 7 = b7
  rcases (by omega : p = 1 ∨ p = 2 ∨ p = 3 ∨ p = 4 ∨ p = 5 ∨ p = 6 ∨ p = 7 ∨ p = 8 ∨ p = 9) with rfl | rfl | rfl | rfl | rfl | rfl | rfl | rfl | rfl
  · go_enter Try.func22, Try.ntmps22
    go_wp2_with fail
    refine bodyPost_ret (v := .agg #[.int .i64 fg, .int .i64 bg, .bool on, .bool b1, .bool b2, .bool b3, .bool b4, .bool b5, .bool b6, .bool b7]) (by simp [results, Try.results22, go_sem]) rfl ⟨rfl, ?_⟩
    (repeat' (first | (with_reducible exact Below.refl _ _) | (with_reducible assumption) | (with_reducible refine Below.alloc ?_ ?_ _) | (with_reducible refine below_setRow ?_ ?_ _) | (with_reducible refine bl_drew ?_) | (with_reducible refine bl_drewN ?_ _) | (with_reducible refine Below.setCell ?_ ?_ _) | (with_reducible refine bl_then ?_ ?_ hb) | (with_reducible refine bl_then ?_ ?_ hb1) | (with_reducible refine bl_then ?_ ?_ hb2) | (with_reducible refine bl_then ?_ ?_ hb3) | (with_reducible refine bl_then ?_ ?_ hb4) | (with_reducible refine bl_then ?_ ?_ hb5) | (with_reducible refine bl_then ?_ ?_ hb6) | (with_reducible refine bl_then ?_ ?_ hb7) | (with_reducible refine bl_then ?_ ?_ hb8) | (with_reducible exact Nat.le_refl _) | omega | (simp only [World.size_alloc, World.size_setCell, World.size_drew, size_setRow]; omega) | (simp; omega) | (simp; done)))
  · go_enter Try.func22, Try.ntmps22
    go_wp2_with fail
    refine bodyPost_ret (v := .agg #[.int .i64 fg, .int .i64 bg, .bool b0, .bool on, .bool b2, .bool b3, .bool b4, .bool b5, .bool b6, .bool b7]) (by simp [results, Try.results22, go_sem]) rfl ⟨rfl, ?_⟩
    (repeat' (first | (with_reducible exact Below.refl _ _) | (with_reducible assumption) | (with_reducible refine Below.alloc ?_ ?_ _) | (with_reducible refine below_setRow ?_ ?_ _) | (with_reducible refine bl_drew ?_) | (with_reducible refine bl_drewN ?_ _) | (with_reducible refine Below.setCell ?_ ?_ _) | (with_reducible refine bl_then ?_ ?_ hb) | (with_reducible refine bl_then ?_ ?_ hb1) | (with_reducible refine bl_then ?_ ?_ hb2) | (with_reducible refine bl_then ?_ ?_ hb3) | (with_reducible refine bl_then ?_ ?_ hb4) | (with_reducible refine bl_then ?_ ?_ hb5) | (with_reducible refine bl_then ?_ ?_ hb6) | (with_reducible refine bl_then ?_ ?_ hb7) | (with_reducible refine bl_then ?_ ?_ hb8) | (with_reducible exact Nat.le_refl _) | omega | (simp only [World.size_alloc, World.size_setCell, World.size_drew, size_setRow]; omega) | (simp; omega) | (simp; done)))
  · go_enter Try.func22, Try.ntmps22
    go_wp2_with fail
    refine bodyPost_ret (v := .agg #[.int .i64 fg, .int .i64 bg, .bool b0, .bool b1, .bool on, .bool b3, .bool b4, .bool b5, .bool b6, .bool b7]) (by simp [results, Try.results22, go_sem]) rfl ⟨rfl, ?_⟩
    (repeat' (first | (with_reducible exact Below.refl _ _) | (with_reducible assumption) | (with_reducible refine Below.alloc ?_ ?_ _) | (with_reducible refine below_setRow ?_ ?_ _) | (with_reducible refine bl_drew ?_) | (with_reducible refine bl_drewN ?_ _) | (with_reducible refine Below.setCell ?_ ?_ _) | (with_reducible refine bl_then ?_ ?_ hb) | (with_reducible refine bl_then ?_ ?_ hb1) | (with_reducible refine bl_then ?_ ?_ hb2) | (with_reducible refine bl_then ?_ ?_ hb3) | (with_reducible refine bl_then ?_ ?_ hb4) | (with_reducible refine bl_then ?_ ?_ hb5) | (with_reducible refine bl_then ?_ ?_ hb6) | (with_reducible refine bl_then ?_ ?_ hb7) | (with_reducible refine bl_then ?_ ?_ hb8) | (with_reducible exact Nat.le_refl _) | omega | (simp only [World.size_alloc, World.size_setCell, World.size_drew, size_setRow]; omega) | (simp; omega) | (simp; done)))
  · go_enter Try.func22, Try.ntmps22
    go_wp2_with fail
    refine bodyPost_ret (v := .agg #[.int .i64 fg, .int .i64 bg, .bool b0, .bool b1, .bool b2, .bool on, .bool b4, .bool b5, .bool b6, .bool b7]) (by simp [results, Try.results22, go_sem]) rfl ⟨rfl, ?_⟩
    (repeat' (first | (with_reducible exact Below.refl _ _) | (with_reducible assumption) | (with_reducible refine Below.alloc ?_ ?_ _) | (with_reducible refine below_setRow ?_ ?_ _) | (with_reducible refine bl_drew ?_) | (with_reducible refine bl_drewN ?_ _) | (with_reducible refine Below.setCell ?_ ?_ _) | (with_reducible refine bl_then ?_ ?_ hb) | (with_reducible refine bl_then ?_ ?_ hb1) | (with_reducible refine bl_then ?_ ?_ hb2) | (with_reducible refine bl_then ?_ ?_ hb3) | (with_reducible refine bl_then ?_ ?_ hb4) | (with_reducible refine bl_then ?_ ?_ hb5) | (with_reducible refine bl_then ?_ ?_ hb6) | (with_reducible refine bl_then ?_ ?_ hb7) | (with_reducible refine bl_then ?_ ?_ hb8) | (with_reducible exact Nat.le_refl _) | omega | (simp only [World.size_alloc, World.size_setCell, World.size_drew, size_setRow]; omega) | (simp; omega) | (simp; done)))
  · go_enter Try.func22, Try.ntmps22
    go_wp2_with fail
    refine bodyPost_ret (v := .agg #[.int .i64 fg, .int .i64 bg, .bool b0, .bool b1, .bool b2, .bool b3, .bool on, .bool b5, .bool b6, .bool b7]) (by simp [results, Try.results22, go_sem]) rfl ⟨rfl, ?_⟩
    (repeat' (first | (with_reducible exact Below.refl _ _) | (with_reducible assumption) | (with_reducible refine Below.alloc ?_ ?_ _) | (with_reducible refine below_setRow ?_ ?_ _) | (with_reducible refine bl_drew ?_) | (with_reducible refine bl_drewN ?_ _) | (with_reducible refine Below.setCell ?_ ?_ _) | (with_reducible refine bl_then ?_ ?_ hb) | (with_reducible refine bl_then ?_ ?_ hb1) | (with_reducible refine bl_then ?_ ?_ hb2) | (with_reducible refine bl_then ?_ ?_ hb3) | (with_reducible refine bl_then ?_ ?_ hb4) | (with_reducible refine bl_then ?_ ?_ hb5) | (with_reducible refine bl_then ?_ ?_ hb6) | (with_reducible refine bl_then ?_ ?_ hb7) | (with_reducible refine bl_then ?_ ?_ hb8) | (with_reducible exact Nat.le_refl _) | omega | (simp only [World.size_alloc, World.size_setCell, World.size_drew, size_setRow]; omega) | (simp; omega) | (simp; done)))
  · go_enter Try.func22, Try.ntmps22
    go_wp2_with fail
    refine bodyPost_ret (v := .agg #[.int .i64 fg, .int .i64 bg, .bool b0, .bool b1, .bool b2, .bool b3, .bool b4, .bool b5, .bool b6, .bool b7]) (by simp [results, Try.results22, go_sem]) rfl ⟨rfl, ?_⟩
    (repeat' (first | (with_reducible exact Below.refl _ _) | (with_reducible assumption) | (with_reducible refine Below.alloc ?_ ?_ _) | (with_reducible refine below_setRow ?_ ?_ _) | (with_reducible refine bl_drew ?_) | (with_reducible refine bl_drewN ?_ _) | (with_reducible refine Below.setCell ?_ ?_ _) | (with_reducible refine bl_then ?_ ?_ hb) | (with_reducible refine bl_then ?_ ?_ hb1) | (with_reducible refine bl_then ?_ ?_ hb2) | (with_reducible refine bl_then ?_ ?_ hb3) | (with_reducible refine bl_then ?_ ?_ hb4) | (with_reducible refine bl_then ?_ ?_ hb5) | (with_reducible refine bl_then ?_ ?_ hb6) | (with_reducible refine bl_then ?_ ?_ hb7) | (with_reducible refine bl_then ?_ ?_ hb8) | (with_reducible exact Nat.le_refl _) | omega | (simp only [World.size_alloc, World.size_setCell, World.size_drew, size_setRow]; omega) | (simp; omega) | (simp; done)))
  · go_enter Try.func22, Try.ntmps22
    go_wp2_with fail
    refine bodyPost_ret (v := .agg #[.int .i64 fg, .int .i64 bg, .bool b0, .bool b1, .bool b2, .bool b3, .bool b4, .bool on, .bool b6, .bool b7]) (by simp [results, Try.results22, go_sem]) rfl ⟨rfl, ?_⟩
    (repeat' (first | (with_reducible exact Below.refl _ _) | (with_reducible assumption) | (with_reducible refine Below.alloc ?_ ?_ _) | (with_reducible refine below_setRow ?_ ?_ _) | (with_reducible refine bl_drew ?_) | (with_reducible refine bl_drewN ?_ _) | (with_reducible refine Below.setCell ?_ ?_ _) | (with_reducible refine bl_then ?_ ?_ hb) | (with_reducible refine bl_then ?_ ?_ hb1) | (with_reducible refine bl_then ?_ ?_ hb2) | (with_reducible refine bl_then ?_ ?_ hb3) | (with_reducible refine bl_then ?_ ?_ hb4) | (with_reducible refine bl_then ?_ ?_ hb5) | (with_reducible refine bl_then ?_ ?_ hb6) | (with_reducible refine bl_then ?_ ?_ hb7) | (with_reducible refine bl_then ?_ ?_ hb8) | (with_reducible exact Nat.le_refl _) | omega | (simp only [World.size_alloc, World.size_setCell, World.size_drew, size_setRow]; omega) | (simp; omega) | (simp; done)))
  · go_enter Try.func22, Try.ntmps22
    go_wp2_with fail
    refine bodyPost_ret (v := .agg #[.int .i64 fg, .int .i64 bg, .bool b0, .bool b1, .bool b2, .bool b3, .bool b4, .bool b5, .bool on, .bool b7]) (by simp [results, Try.results22, go_sem]) rfl ⟨rfl, ?_⟩
    (repeat' (first | (with_reducible exact Below.refl _ _) | (with_reducible assumption) | (with_reducible refine Below.alloc ?_ ?_ _) | (with_reducible refine below_setRow ?_ ?_ _) | (with_reducible refine bl_drew ?_) | (with_reducible refine bl_drewN ?_ _) | (with_reducible refine Below.setCell ?_ ?_ _) | (with_reducible refine bl_then ?_ ?_ hb) | (with_reducible refine bl_then ?_ ?_ hb1) | (with_reducible refine bl_then ?_ ?_ hb2) | (with_reducible refine bl_then ?_ ?_ hb3) | (with_reducible refine bl_then ?_ ?_ hb4) | (with_reducible refine bl_then ?_ ?_ hb5) | (with_reducible refine bl_then ?_ ?_ hb6) | (with_reducible refine bl_then ?_ ?_ hb7) | (with_reducible refine bl_then ?_ ?_ hb8) | (with_reducible exact Nat.le_refl _) | omega | (simp only [World.size_alloc, World.size_setCell, World.size_drew, size_setRow]; omega) | (simp; omega) | (simp; done)))
  · go_enter Try.func22, Try.ntmps22
    go_wp2_with fail
    refine bodyPost_ret (v := .agg #[.int .i64 fg, .int .i64 bg, .bool b0, .bool b1, .bool b2, .bool b3, .bool b4, .bool b5, .bool b6, .bool on]) (by simp [results, Try.results22, go_sem]) rfl ⟨rfl, ?_⟩
    (repeat' (first | (with_reducible exact Below.refl _ _) | (with_reducible assumption) | (with_reducible refine Below.alloc ?_ ?_ _) | (with_reducible refine below_setRow ?_ ?_ _) | (with_reducible refine bl_drew ?_) | (with_reducible refine bl_drewN ?_ _) | (with_reducible refine Below.setCell ?_ ?_ _) | (with_reducible refine bl_then ?_ ?_ hb) | (with_reducible refine bl_then ?_ ?_ hb1) | (with_reducible refine bl_then ?_ ?_ hb2) | (with_reducible refine bl_then ?_ ?_ hb3) | (with_reducible refine bl_then ?_ ?_ hb4) | (with_reducible refine bl_then ?_ ?_ hb5) | (with_reducible refine bl_then ?_ ?_ hb6) | (with_reducible refine bl_then ?_ ?_ hb7) | (with_reducible refine bl_then ?_ ?_ hb8) | (with_reducible exact Nat.le_refl _) | omega | (simp only [World.size_alloc, World.size_setCell, World.size_drew, size_setRow]; omega) | (simp; omega) | (simp; done)))
theorem rapply_any (s0 : Sty) (A : Option Addr) (n cap : Nat) (zs : List Int) (w : World) (hs0 : s0.b < 256) (hwf : ∀ z ∈ zs, (Lit.int .i64 z).wf = true) (h : RdI w .i64 A n zs) (hn47 : n ≤ 140737488355328) :
    Calls Try.prog 7 #[s0.val, .slice A n cap] w fun e w' => e = .returned (applyS s0 zs).val ∧ Below w.heap.size w w' := by
  obtain ⟨R, hR⟩ : ∃ R, applyS s0 zs = R := ⟨_, rfl⟩
  rw [hR]
  obtain ⟨B, hB⟩ : ∃ B, w.heap.size = B := ⟨_, rfl⟩
  have HR := Lib.hid hR
  have HH := Lib.hid h
  have HWF := Lib.hid hwf
  have HLN := Lib.hid h.len
  clear hR h hwf
  go_enter Try.func7, Try.ntmps7
  obtain ⟨V, hV⟩ : ∃ V, (w.alloc (.cells s0.row 23)).alloc (.cells zeroS.row 23) = V := ⟨_, rfl⟩
  have e1 : s0.val = .agg s0.row := rfl
  have e2 : zeroS.row = #[.int .i64 0, .int .i64 0, .bool false, .bool false, .bool false, .bool false, .bool false, .bool false, .bool false, .bool false] := rfl
  rw [e2] at hV
  rw [e1]
  clear e1
  have HS0 : Hid (∀ A n (zs : List Int), RdI w .i64 A n zs → (∀ a : Addr, A = some a → a.block ≠ B ∧ a.block ≠ B + 1) → CS w V B A n zs s0) := Lib.hid (by
    intro A n zs hr ha
    have hL : Below w.heap.size w V := by rw [← hV]; (repeat' (first | (with_reducible exact Below.refl _ _) | (with_reducible assumption) | (with_reducible refine Below.alloc ?_ ?_ _) | (with_reducible refine below_setRow ?_ ?_ _) | (with_reducible refine bl_drew ?_) | (with_reducible refine bl_drewN ?_ _) | (with_reducible refine Below.setCell ?_ ?_ _) | (with_reducible refine bl_then ?_ ?_ hb) | (with_reducible refine bl_then ?_ ?_ hb1) | (with_reducible refine bl_then ?_ ?_ hb2) | (with_reducible refine bl_then ?_ ?_ hb3) | (with_reducible refine bl_then ?_ ?_ hb4) | (with_reducible refine bl_then ?_ ?_ hb5) | (with_reducible refine bl_then ?_ ?_ hb6) | (with_reducible refine bl_then ?_ ?_ hb7) | (with_reducible refine bl_then ?_ ?_ hb8) | (with_reducible exact Nat.le_refl _) | omega | (simp only [World.size_alloc, World.size_setCell, World.size_drew, size_setRow]; omega) | (simp; omega) | (simp; done)))
    refine ⟨hr.below hL, ha, ?_, ?_, by rw [← hB]; exact hL, hB⟩
    · rw [← hV, ← hB]; (simp only [heap_setRow_if, heap_alloc_if, heap_setCell_if, World.size_alloc, size_setRow, World.size_setCell]; simp)
    · rw [e2, ← hV, ← hB]; (simp only [heap_setRow_if, heap_alloc_if, heap_setCell_if, World.size_alloc, size_setRow, World.size_setCell]; simp))
  clear e2
  by_cases hn0 : n = 0
  · subst hn0
    have hS := HS0.out none 0 [] RdI.nil (by intro a ha; cases ha)
    have HRE : Hid (plainS = R) := Lib.hid (by
      rw [← HR.out]
      unfold applyS
      rw [if_pos HLN.out])
    clear HS0
    go_wp2_with fail
    try rw [hV]
    refine (rplain_any _).mono ?_
    rintro e w1 ⟨rfl, hb⟩
    have h1 := hS.below hb
    clear hb hS
    go_wp2_with (with_reducible refine wpList_stS rfl (.tmp 4) (.tmp 11) rfl rfl rfl h1.hR ?_)
    refine bodyPost_ret (v := plainS.val) ?_ rfl ?_
    · exact results_style (fn := Try.f7) Try.results7 rfl (setRow_heap _ _ _ _ _ _ h1.hR)
    · exact ⟨by rw [HRE.out], by rw [h1.sz]; exact below_setRow h1.hL (by omega) _⟩
  · have hn0i : ¬ (n : Int) = 0 := by omega
    have hn0b : ((n : Int) == 0) = false := by simpa using hn0i
    obtain ⟨b, off, rfl, hcl⟩ := HH.out.2 (by omega)
    have hbl := HH.out.lt_ (by omega) rfl
    have HS1 : Hid (CS w V B (some ⟨b, off, none⟩) n zs s0) := Lib.hid (HS0.out _ _ _ HH.out (by
      intro a ha
      simp only [Option.some.injEq] at ha
      subst ha
      show b ≠ B ∧ b ≠ B + 1
      omega))
    have HR1 : Hid (aplS s0 (zs.drop 0) = R) := Lib.hid (by
      rw [← HR.out]
      unfold applyS
      rw [if_neg (by rw [HLN.out]; exact hn0)]
      rfl)
    clear HS0 hcl HR
    go_wp2_with fail
    try rw [hV]
    clear hV
    go_loopw [5] (fun i wr => ∃ (k : Nat) (s : Sty), k ≤ n + 4 ∧ i = .int .i64 k ∧ Hid (CS w wr B (some ⟨b, off, none⟩) n zs s) ∧ s.b < 256 ∧ Hid (aplS s (zs.drop k) = R)) (fun i _ => n + 4 - (intOf i).toNat)
    case atStart => exact ⟨0, s0, by omega, rfl, HS1, hs0, HR1⟩
    case round =>
      clear HS1 HR1
      obtain ⟨k, s, hk, rfl, HS, hsb, HE⟩ := hrel
      have hwk1 : IntKind.i64.wrap ((k : Int) + 1) = (k : Int) + 1 := IntWalk.i64_in _ (by omega)
      have hwk2 : IntKind.i64.wrap ((k : Int) + 2) = (k : Int) + 2 := IntWalk.i64_in _ (by omega)
      have hwk3 : IntKind.i64.wrap ((k : Int) + 2 + 1) = (k : Int) + 2 + 1 := IntWalk.i64_in _ (by omega)
      have hwk4 : IntKind.i64.wrap ((k : Int) + 4) = (k : Int) + 4 := IntWalk.i64_in _ (by omega)
      have hwk5 : IntKind.i64.wrap ((k : Int) + 4 + 1) = (k : Int) + 4 + 1 := IntWalk.i64_in _ (by omega)
      by_cases hkn : k < n
      · have hki : (k : Int) < (n : Int) := by omega
        have hk0 : (0 : Int) ≤ (k : Int) := by omega
        have HCL : Hid (∀ j, j < n → wr.cell? ⟨b, off + j, none⟩ = some (.int .i64 (zs.getD j 0))) := Lib.hid (by
          obtain ⟨b', off', hA, hc⟩ := HS.out.rd.2 (by omega)
          simp only [Option.some.injEq, Addr.mk.injEq] at hA
          obtain ⟨rfl, rfl, _⟩ := hA
          exact hc)
        have c0 := HCL.out k hkn
        obtain ⟨p, hp⟩ : ∃ p, zs.getD k 0 = p := ⟨_, rfl⟩
        rw [hp] at c0
        have hpw := wf_i64' (HWF.out p (by rw [← hp, List.getD_eq_getElem?_getD, List.getElem?_eq_getElem (by rw [HLN.out]; exact hkn)]; exact List.getElem_mem _))
        have HEP : Hid (aplS s (p :: zs.drop (k + 1)) = R) := Lib.hid (by
          have hkl : k < zs.length := by rw [HLN.out]; exact hkn
          have e := List.drop_eq_getElem_cons (l := zs) (i := k) hkl
          rw [← HE.out, e, ← hp]
          simp [List.getD_eq_getElem?_getD, List.getElem?_eq_getElem hkl])
        have HPL : Hid ((zs.drop (k + 1)).length = n - (k + 1)) := Lib.hid (by rw [List.length_drop, HLN.out])
        clear hp HE
        by_cases g17 : p ≤ -1
        · as_aux_lemma =>
            have f0 : (p == 0) = false := by simp; omega
            have f1 : ¬ 1 ≤ p := by omega
            have f2 : p ≤ 9 := by omega
            have f3 : (p == 22) = false := by simp; omega
            have f4 : ¬ 23 ≤ p := by omega
            have f5 : p ≤ 29 := by omega
            have f6 : ¬ 30 ≤ p := by omega
            have f7 : p ≤ 37 := by omega
            have f8 : ¬ 90 ≤ p := by omega
            have f9 : p ≤ 97 := by omega
            have f10 : ¬ 40 ≤ p := by omega
            have f11 : p ≤ 47 := by omega
            have f12 : ¬ 100 ≤ p := by omega
            have f13 : p ≤ 107 := by omega
            have f14 : (p == 39) = false := by simp; omega
            have f15 : (p == 49) = false := by simp; omega
            have f16 : (p == 38) = false := by simp; omega
            have f17 : (p == 48) = false := by simp; omega
            have HEQ : Hid (aplS s (zs.drop (k + 1)) = R) := Lib.hid (by
              rw [← HEP.out, apl_step (s := s) (z := p) (ps := zs.drop (k + 1)) (by omega) (by omega)]
              unfold stepP
              rw [colF_no (by omega) (by omega) (by omega), colF_no (by omega) (by omega) (by omega), flB_other (by omega) (by omega) 8 (by omega)]
              rfl)
            go_wp2_with fail
            exact ⟨⟨k + 1, s, by omega, by go_num, Lib.hid (HS.out), hsb, Lib.hid (HEQ.out)⟩, by simp [intOf]; omega⟩
        · by_cases g16 : p ≤ 0
          · as_aux_lemma =>
              have f0 : (p == 0) = true := by simp; omega
              have f1 : ¬ 1 ≤ p := by omega
              have f2 : p ≤ 9 := by omega
              have f3 : (p == 22) = false := by simp; omega
              have f4 : ¬ 23 ≤ p := by omega
              have f5 : p ≤ 29 := by omega
              have f6 : ¬ 30 ≤ p := by omega
              have f7 : p ≤ 37 := by omega
              have f8 : ¬ 90 ≤ p := by omega
              have f9 : p ≤ 97 := by omega
              have f10 : ¬ 40 ≤ p := by omega
              have f11 : p ≤ 47 := by omega
              have f12 : ¬ 100 ≤ p := by omega
              have f13 : p ≤ 107 := by omega
              have f14 : (p == 39) = false := by simp; omega
              have f15 : (p == 49) = false := by simp; omega
              have f16 : (p == 38) = false := by simp; omega
              have f17 : (p == 48) = false := by simp; omega
              obtain rfl : p = 0 := by omega
              go_wp2_with fail
              refine (rplain_any _).mono ?_
              rintro e w1 ⟨rfl, hb⟩
              have h1 := HS.out.below hb
              clear hb
              go_wp2_with (with_reducible refine wpList_stS rfl (.tmp 2) (.tmp 25) rfl rfl rfl h1.hB ?_)
              exact ⟨⟨k + 1, plainS, by omega, by go_num, Lib.hid (h1.set plainS), by decide, Lib.hid ((apl_zero s _).symm.trans HEP.out)⟩, by simp [intOf]; omega⟩
          · by_cases g15 : p ≤ 9
            · as_aux_lemma =>
                have f0 : (p == 0) = false := by simp; omega
                have f1 : 1 ≤ p := by omega
                have f2 : p ≤ 9 := by omega
                have f3 : (p == 22) = false := by simp; omega
                have f4 : ¬ 23 ≤ p := by omega
                have f5 : p ≤ 29 := by omega
                have f6 : ¬ 30 ≤ p := by omega
                have f7 : p ≤ 37 := by omega
                have f8 : ¬ 90 ≤ p := by omega
                have f9 : p ≤ 97 := by omega
                have f10 : ¬ 40 ≤ p := by omega
                have f11 : p ≤ 47 := by omega
                have f12 : ¬ 100 ≤ p := by omega
                have f13 : p ≤ 107 := by omega
                have f14 : (p == 39) = false := by simp; omega
                have f15 : (p == 49) = false := by simp; omega
                have f16 : (p == 38) = false := by simp; omega
                have f17 : (p == 48) = false := by simp; omega
                obtain ⟨m, hm⟩ := Int.eq_ofNat_of_zero_le (show 0 ≤ p by omega)
                obtain rfl : p = (m : Int) := by omega
                have h1 : 1 ≤ m := by omega
                have HEQ : Hid (aplS ⟨s.fg, s.bg, setB s.b m true⟩ (zs.drop (k + 1)) = R) := Lib.hid (by
                  rw [← HEP.out, apl_step (by omega) (by omega)]
                  unfold stepP
                  rw [colF_no (by omega) (by omega) (by omega), colF_no (by omega) (by omega) (by omega), flB_on hsb h1 (by omega)]
                  rfl)
                go_wp2_with (with_reducible refine wpList_ldS rfl (.tmp 2) rfl rfl HS.out.hB ?_)
                refine (rflag_any s m true hsb (by omega) (by omega) _).mono ?_
                rintro e w1 ⟨rfl, hb⟩
                have h2 := HS.out.below hb
                clear hb
                go_wp2_with (with_reducible refine wpList_stS rfl (.tmp 2) (.tmp 35) rfl rfl rfl h2.hB ?_)
                exact ⟨⟨k + 1, ⟨s.fg, s.bg, setB s.b m true⟩, by omega, by go_num, Lib.hid (h2.set ⟨s.fg, s.bg, setB s.b m true⟩), setB_lt hsb (by omega) (by omega) _, Lib.hid (HEQ.out)⟩, by simp [intOf]; omega⟩
            · by_cases g14 : p ≤ 21
              · as_aux_lemma =>
                  have f0 : (p == 0) = false := by simp; omega
                  have f1 : 1 ≤ p := by omega
                  have f2 : ¬ p ≤ 9 := by omega
                  have f3 : (p == 22) = false := by simp; omega
                  have f4 : ¬ 23 ≤ p := by omega
                  have f5 : p ≤ 29 := by omega
                  have f6 : ¬ 30 ≤ p := by omega
                  have f7 : p ≤ 37 := by omega
                  have f8 : ¬ 90 ≤ p := by omega
                  have f9 : p ≤ 97 := by omega
                  have f10 : ¬ 40 ≤ p := by omega
                  have f11 : p ≤ 47 := by omega
                  have f12 : ¬ 100 ≤ p := by omega
                  have f13 : p ≤ 107 := by omega
                  have f14 : (p == 39) = false := by simp; omega
                  have f15 : (p == 49) = false := by simp; omega
                  have f16 : (p == 38) = false := by simp; omega
                  have f17 : (p == 48) = false := by simp; omega
                  have HEQ : Hid (aplS s (zs.drop (k + 1)) = R) := Lib.hid (by
                    rw [← HEP.out, apl_step (s := s) (z := p) (ps := zs.drop (k + 1)) (by omega) (by omega)]
                    unfold stepP
                    rw [colF_no (by omega) (by omega) (by omega), colF_no (by omega) (by omega) (by omega), flB_other (by omega) (by omega) 8 (by omega)]
                    rfl)
                  go_wp2_with fail
                  exact ⟨⟨k + 1, s, by omega, by go_num, Lib.hid (HS.out), hsb, Lib.hid (HEQ.out)⟩, by simp [intOf]; omega⟩
              · by_cases g13 : p ≤ 22
                · as_aux_lemma =>
                    have f0 : (p == 0) = false := by simp; omega
                    have f1 : 1 ≤ p := by omega
                    have f2 : ¬ p ≤ 9 := by omega
                    have f3 : (p == 22) = true := by simp; omega
                    have f4 : ¬ 23 ≤ p := by omega
                    have f5 : p ≤ 29 := by omega
                    have f6 : ¬ 30 ≤ p := by omega
                    have f7 : p ≤ 37 := by omega
                    have f8 : ¬ 90 ≤ p := by omega
                    have f9 : p ≤ 97 := by omega
                    have f10 : ¬ 40 ≤ p := by omega
                    have f11 : p ≤ 47 := by omega
                    have f12 : ¬ 100 ≤ p := by omega
                    have f13 : p ≤ 107 := by omega
                    have f14 : (p == 39) = false := by simp; omega
                    have f15 : (p == 49) = false := by simp; omega
                    have f16 : (p == 38) = false := by simp; omega
                    have f17 : (p == 48) = false := by simp; omega
                    obtain rfl : p = 22 := by omega
                    have HEQ : Hid (aplS ⟨s.fg, s.bg, clr2 s.b⟩ (zs.drop (k + 1)) = R) := Lib.hid (by
                      rw [← HEP.out, apl_step (by omega) (by omega)]
                      unfold stepP
                      rw [colF_no (by omega) (by omega) (by omega), colF_no (by omega) (by omega) (by omega), flB_22 hsb]
                      rfl)
                    have c2 : wr.cell? ⟨B, 2, none⟩ = some (.bool (tb s.b 0)) := (cell_of_row wr B 2 _ _ (0, 0) HS.out.hB).trans rfl
                    have g2 := frozen_of_row wr B 2 _ _ HS.out.hB
                    have c3 : (wr.setCell ⟨B, 2, none⟩ (.bool false)).cell? ⟨B, 3, none⟩ = some (.bool (tb s.b 1)) := (cell_of_row _ B 3 _ _ (0, 0) (heap_setCell_same _ _ 2 _ _ _ HS.out.hB)).trans rfl
                    have g3 := frozen_of_row (wr.setCell ⟨B, 2, none⟩ (.bool false)) B 3 _ _ (heap_setCell_same _ _ 2 _ _ _ HS.out.hB)
                    go_wp2_with fail
                    exact ⟨⟨k + 1, ⟨s.fg, s.bg, clr2 s.b⟩, by omega, by go_num, Lib.hid (HS.out.off2 hsb), Nat.lt_of_le_of_lt (Nat.sub_le _ _) hsb, Lib.hid (HEQ.out)⟩, by simp [intOf]; omega⟩
                · by_cases g12 : p ≤ 29
                  · as_aux_lemma =>
                      have f0 : (p == 0) = false := by simp; omega
                      have f1 : 1 ≤ p := by omega
                      have f2 : ¬ p ≤ 9 := by omega
                      have f3 : (p == 22) = false := by simp; omega
                      have f4 : 23 ≤ p := by omega
                      have f5 : p ≤ 29 := by omega
                      have f6 : ¬ 30 ≤ p := by omega
                      have f7 : p ≤ 37 := by omega
                      have f8 : ¬ 90 ≤ p := by omega
                      have f9 : p ≤ 97 := by omega
                      have f10 : ¬ 40 ≤ p := by omega
                      have f11 : p ≤ 47 := by omega
                      have f12 : ¬ 100 ≤ p := by omega
                      have f13 : p ≤ 107 := by omega
                      have f14 : (p == 39) = false := by simp; omega
                      have f15 : (p == 49) = false := by simp; omega
                      have f16 : (p == 38) = false := by simp; omega
                      have f17 : (p == 48) = false := by simp; omega
                      obtain ⟨m, hm⟩ := Int.eq_ofNat_of_zero_le (show 0 ≤ p - 20 by omega)
                      obtain rfl : p = (m : Int) + 20 := by omega
                      have hw20 : IntKind.i64.wrap ((m : Int) + 20 - 20) = (m : Int) := (IntWalk.i64_in _ (by omega)).trans (by omega)
                      have hs20 : (m : Int) + 20 - 20 = (m : Int) := by omega
                      have hw21 : IntKind.i64.wrap (m : Int) = (m : Int) := IntWalk.i64_in _ (by omega)
                      have h1 : 3 ≤ m := by omega
                      have HEQ : Hid (aplS ⟨s.fg, s.bg, setB s.b m false⟩ (zs.drop (k + 1)) = R) := Lib.hid (by
                        rw [← HEP.out, apl_step (by omega) (by omega)]
                        unfold stepP
                        rw [colF_no (by omega) (by omega) (by omega), colF_no (by omega) (by omega) (by omega), flB_off hsb h1 (by omega)]
                        rfl)
                      go_wp2_with (with_reducible refine wpList_ldS rfl (.tmp 2) rfl rfl HS.out.hB ?_)
                      refine (rflag_any s m false hsb (by omega) (by omega) _).mono ?_
                      rintro e w1 ⟨rfl, hb⟩
                      have h2 := HS.out.below hb
                      clear hb
                      go_wp2_with (with_reducible refine wpList_stS rfl (.tmp 2) (.tmp 51) rfl rfl rfl h2.hB ?_)
                      exact ⟨⟨k + 1, ⟨s.fg, s.bg, setB s.b m false⟩, by omega, by go_num, Lib.hid (h2.set ⟨s.fg, s.bg, setB s.b m false⟩), setB_lt hsb (by omega) (by omega) _, Lib.hid (HEQ.out)⟩, by simp [intOf]; omega⟩
                  · by_cases g11 : p ≤ 37
                    · as_aux_lemma =>
                        have f0 : (p == 0) = false := by simp; omega
                        have f1 : 1 ≤ p := by omega
                        have f2 : ¬ p ≤ 9 := by omega
                        have f3 : (p == 22) = false := by simp; omega
                        have f4 : 23 ≤ p := by omega
                        have f5 : ¬ p ≤ 29 := by omega
                        have f6 : 30 ≤ p := by omega
                        have f7 : p ≤ 37 := by omega
                        have f8 : ¬ 90 ≤ p := by omega
                        have f9 : p ≤ 97 := by omega
                        have f10 : ¬ 40 ≤ p := by omega
                        have f11 : p ≤ 47 := by omega
                        have f12 : ¬ 100 ≤ p := by omega
                        have f13 : p ≤ 107 := by omega
                        have f14 : (p == 39) = false := by simp; omega
                        have f15 : (p == 49) = false := by simp; omega
                        have f16 : (p == 38) = false := by simp; omega
                        have f17 : (p == 48) = false := by simp; omega
                        have hwp : IntKind.i64.wrap (p - 30) = p - 30 := IntWalk.i64_in _ (by omega)
                        have HEQ : Hid (aplS ⟨p - 30, s.bg, s.b⟩ (zs.drop (k + 1)) = R) := Lib.hid (by
                          rw [← HEP.out, apl_step (by omega) (by omega)]
                          unfold stepP
                          rw [colF_a (by omega), colF_no (by omega) (by omega) (by omega), flB_other (by omega) (by omega) 8 (by omega)]
                          rfl)
                        have cB : wr.cell? ⟨B, 0, none⟩ = some (.int .i64 s.fg) := (cell_of_row wr B 0 _ _ (0, 0) HS.out.hB).trans rfl
                        have fB := frozen_of_row wr B 0 _ _ HS.out.hB
                        go_wp2_with fail
                        exact ⟨⟨k + 1, ⟨p - 30, s.bg, s.b⟩, by omega, by go_num, Lib.hid (HS.out.fg _), hsb, Lib.hid (HEQ.out)⟩, by simp [intOf]; omega⟩
                    · by_cases g10 : p ≤ 38
                      · as_aux_lemma =>
                          have f0 : (p == 0) = false := by simp; omega
                          have f1 : 1 ≤ p := by omega
                          have f2 : ¬ p ≤ 9 := by omega
                          have f3 : (p == 22) = false := by simp; omega
                          have f4 : 23 ≤ p := by omega
                          have f5 : ¬ p ≤ 29 := by omega
                          have f6 : 30 ≤ p := by omega
                          have f7 : ¬ p ≤ 37 := by omega
                          have f8 : ¬ 90 ≤ p := by omega
                          have f9 : p ≤ 97 := by omega
                          have f10 : ¬ 40 ≤ p := by omega
                          have f11 : p ≤ 47 := by omega
                          have f12 : ¬ 100 ≤ p := by omega
                          have f13 : p ≤ 107 := by omega
                          have f14 : (p == 39) = false := by simp; omega
                          have f15 : (p == 49) = false := by simp; omega
                          have f16 : (p == 38) = true := by simp; omega
                          have f17 : (p == 48) = false := by simp; omega
                          obtain rfl : p = 38 := by omega
                          by_cases h1n : k + 1 < n
                          · have h1i : (k : Int) + 1 < (n : Int) := by omega
                            have c1 : wr.cell? ⟨b, off + (k + 1), none⟩ = some (.int .i64 (zs.getD (k + 1) 0)) := HCL.out (k + 1) h1n
                            obtain ⟨p0, hp0⟩ : ∃ p, zs.getD (k + 1) 0 = p := ⟨_, rfl⟩
                            rw [hp0] at c1
                            have HP0 : Hid ((zs.drop (k + 1)).getD 0 0 = p0) := Lib.hid (by rw [← hp0]; simp [List.getD_eq_getElem?_getD])
                            clear hp0
                            by_cases h5 : p0 = 5
                            · have h5b : (p0 == 5) = true := by simp [h5]
                              have h52 : (p0 == 2) = false := by simp; omega
                              by_cases h2n : k + 2 < n
                              · have h2i : (k : Int) + 2 < (n : Int) := by omega
                                have c2 : wr.cell? ⟨b, off + (k + 2), none⟩ = some (.int .i64 (zs.getD (k + 2) 0)) := HCL.out (k + 2) h2n
                                obtain ⟨p1, hp1⟩ : ∃ p, zs.getD (k + 2) 0 = p := ⟨_, rfl⟩
                                rw [hp1] at c2
                                have HE5 : Hid (aplS (if 0 ≤ p1 ∧ p1 ≤ 255 then ⟨p1, s.bg, s.b⟩ else s) (zs.drop (k + 3)) = R) := Lib.hid (by
                                  have e := apl_col5 (s := s) (z := 38) (ps := zs.drop (k + 1)) (.inl rfl) (by rw [HPL.out]; omega) (by rw [HP0.out]; exact h5)
                                  rw [if_neg (show ¬ ((38 : Int) = 48) by decide), show (zs.drop (k + 1)).getD 1 0 = p1 by rw [← hp1]; simp [List.getD_eq_getElem?_getD], List.drop_drop] at e
                                  exact e.symm.trans HEP.out)
                                have cB : wr.cell? ⟨B, 0, none⟩ = some (.int .i64 s.fg) := (cell_of_row wr B 0 _ _ (0, 0) HS.out.hB).trans rfl
                                have fB := frozen_of_row wr B 0 _ _ HS.out.hB
                                clear hp1
                                by_cases ha : 0 ≤ p1
                                · by_cases hb : p1 ≤ 255
                                  · go_wp2_with fail
                                    exact ⟨⟨k + 3, ⟨p1, s.bg, s.b⟩, by omega, by go_num, Lib.hid (HS.out.fg p1), hsb, Lib.hid (by rw [← HE5.out, if_pos ⟨ha, hb⟩])⟩, by simp [intOf]; omega⟩
                                  · go_wp2_with fail
                                    exact ⟨⟨k + 3, s, by omega, by go_num, Lib.hid (HS.out), hsb, Lib.hid (by rw [← HE5.out, if_neg (fun h => hb h.2)])⟩, by simp [intOf]; omega⟩
                                · go_wp2_with fail
                                  exact ⟨⟨k + 3, s, by omega, by go_num, Lib.hid (HS.out), hsb, Lib.hid (by rw [← HE5.out, if_neg (fun h => ha h.1)])⟩, by simp [intOf]; omega⟩
                              · have h2i : ¬ (k : Int) + 2 < (n : Int) := by omega
                                have HEQ : Hid (aplS s (zs.drop (k + 1)) = R) := Lib.hid ((apl_col0 (.inl rfl) (by rw [HPL.out, HP0.out]; omega) (by rw [HPL.out, HP0.out]; omega)).symm.trans HEP.out)
                                go_wp2_with fail
                                exact ⟨⟨k + 1, s, by omega, by go_num, Lib.hid (HS.out), hsb, Lib.hid (HEQ.out)⟩, by simp [intOf]; omega⟩
                            · have h5b : (p0 == 5) = false := by simpa using h5
                              by_cases h2 : p0 = 2
                              · have h2b : (p0 == 2) = true := by simp [h2]
                                have HEQ : Hid (aplS s (zs.drop (k + 5)) = R) := Lib.hid (by
                                  have e := apl_col2 (s := s) (z := 38) (ps := zs.drop (k + 1)) (.inl rfl) (by rw [HPL.out, HP0.out]; omega) (by rw [HPL.out]; omega) (by rw [HP0.out]; exact h2)
                                  rw [HEP.out, HPL.out] at e
                                  rw [e]
                                  by_cases h4 : 4 ≤ n - (k + 1)
                                  · rw [Nat.min_eq_left h4, List.drop_drop]
                                  · rw [Nat.min_eq_right (by omega), List.drop_drop, List.drop_eq_nil_of_le (by rw [HLN.out]; omega), List.drop_eq_nil_of_le (by rw [HLN.out]; omega)])
                                go_wp2_with fail
                                exact ⟨⟨k + 5, s, by omega, by go_num, Lib.hid (HS.out), hsb, Lib.hid (HEQ.out)⟩, by simp [intOf]; omega⟩
                              · have h2b : (p0 == 2) = false := by simpa using h2
                                have HEQ : Hid (aplS s (zs.drop (k + 1)) = R) := Lib.hid ((apl_col0 (.inl rfl) (by rw [HPL.out, HP0.out]; omega) (by rw [HPL.out, HP0.out]; omega)).symm.trans HEP.out)
                                go_wp2_with fail
                                exact ⟨⟨k + 1, s, by omega, by go_num, Lib.hid (HS.out), hsb, Lib.hid (HEQ.out)⟩, by simp [intOf]; omega⟩
                          · have h1i : ¬ (k : Int) + 1 < (n : Int) := by omega
                            have HP0 : Hid ((zs.drop (k + 1)).getD 0 0 = 0) := Lib.hid (by rw [List.drop_eq_nil_of_le (by rw [HLN.out]; omega)]; rfl)
                            have HEQ : Hid (aplS s (zs.drop (k + 1)) = R) := Lib.hid ((apl_col0 (.inl rfl) (by rw [HPL.out, HP0.out]; omega) (by rw [HPL.out, HP0.out]; omega)).symm.trans HEP.out)
                            go_wp2_with fail
                            exact ⟨⟨k + 1, s, by omega, by go_num, Lib.hid (HS.out), hsb, Lib.hid (HEQ.out)⟩, by simp [intOf]; omega⟩
                      · by_cases g9 : p ≤ 39
                        · as_aux_lemma =>
                            have f0 : (p == 0) = false := by simp; omega
                            have f1 : 1 ≤ p := by omega
                            have f2 : ¬ p ≤ 9 := by omega
                            have f3 : (p == 22) = false := by simp; omega
                            have f4 : 23 ≤ p := by omega
                            have f5 : ¬ p ≤ 29 := by omega
                            have f6 : 30 ≤ p := by omega
                            have f7 : ¬ p ≤ 37 := by omega
                            have f8 : ¬ 90 ≤ p := by omega
                            have f9 : p ≤ 97 := by omega
                            have f10 : ¬ 40 ≤ p := by omega
                            have f11 : p ≤ 47 := by omega
                            have f12 : ¬ 100 ≤ p := by omega
                            have f13 : p ≤ 107 := by omega
                            have f14 : (p == 39) = true := by simp; omega
                            have f15 : (p == 49) = false := by simp; omega
                            have f16 : (p == 38) = false := by simp; omega
                            have f17 : (p == 48) = false := by simp; omega
                            obtain rfl : p = 39 := by omega
                            have HEQ : Hid (aplS ⟨-1, s.bg, s.b⟩ (zs.drop (k + 1)) = R) := Lib.hid (by
                              rw [← HEP.out, apl_step (by omega) (by omega)]
                              unfold stepP
                              rw [colF_c (by omega), colF_no (by omega) (by omega) (by omega), flB_other (by omega) (by omega) 8 (by omega)]
                              rfl)
                            have cB : wr.cell? ⟨B, 0, none⟩ = some (.int .i64 s.fg) := (cell_of_row wr B 0 _ _ (0, 0) HS.out.hB).trans rfl
                            have fB := frozen_of_row wr B 0 _ _ HS.out.hB
                            go_wp2_with fail
                            exact ⟨⟨k + 1, ⟨-1, s.bg, s.b⟩, by omega, by go_num, Lib.hid (HS.out.fg _), hsb, Lib.hid (HEQ.out)⟩, by simp [intOf]; omega⟩
                        · by_cases g8 : p ≤ 47
                          · as_aux_lemma =>
                              have f0 : (p == 0) = false := by simp; omega
                              have f1 : 1 ≤ p := by omega
                              have f2 : ¬ p ≤ 9 := by omega
                              have f3 : (p == 22) = false := by simp; omega
                              have f4 : 23 ≤ p := by omega
                              have f5 : ¬ p ≤ 29 := by omega
                              have f6 : 30 ≤ p := by omega
                              have f7 : ¬ p ≤ 37 := by omega
                              have f8 : ¬ 90 ≤ p := by omega
                              have f9 : p ≤ 97 := by omega
                              have f10 : 40 ≤ p := by omega
                              have f11 : p ≤ 47 := by omega
                              have f12 : ¬ 100 ≤ p := by omega
                              have f13 : p ≤ 107 := by omega
                              have f14 : (p == 39) = false := by simp; omega
                              have f15 : (p == 49) = false := by simp; omega
                              have f16 : (p == 38) = false := by simp; omega
                              have f17 : (p == 48) = false := by simp; omega
                              have hwp : IntKind.i64.wrap (p - 40) = p - 40 := IntWalk.i64_in _ (by omega)
                              have HEQ : Hid (aplS ⟨s.fg, p - 40, s.b⟩ (zs.drop (k + 1)) = R) := Lib.hid (by
                                rw [← HEP.out, apl_step (by omega) (by omega)]
                                unfold stepP
                                rw [colF_no (by omega) (by omega) (by omega), colF_a (by omega), flB_other (by omega) (by omega) 8 (by omega)]
                                rfl)
                              have cB : wr.cell? ⟨B, 1, none⟩ = some (.int .i64 s.bg) := (cell_of_row wr B 1 _ _ (0, 0) HS.out.hB).trans rfl
                              have fB := frozen_of_row wr B 1 _ _ HS.out.hB
                              go_wp2_with fail
                              exact ⟨⟨k + 1, ⟨s.fg, p - 40, s.b⟩, by omega, by go_num, Lib.hid (HS.out.bg _), hsb, Lib.hid (HEQ.out)⟩, by simp [intOf]; omega⟩
                          · by_cases g7 : p ≤ 48
                            · as_aux_lemma =>
                                have f0 : (p == 0) = false := by simp; omega
                                have f1 : 1 ≤ p := by omega
                                have f2 : ¬ p ≤ 9 := by omega
                                have f3 : (p == 22) = false := by simp; omega
                                have f4 : 23 ≤ p := by omega
                                have f5 : ¬ p ≤ 29 := by omega
                                have f6 : 30 ≤ p := by omega
                                have f7 : ¬ p ≤ 37 := by omega
                                have f8 : ¬ 90 ≤ p := by omega
                                have f9 : p ≤ 97 := by omega
                                have f10 : 40 ≤ p := by omega
                                have f11 : ¬ p ≤ 47 := by omega
                                have f12 : ¬ 100 ≤ p := by omega
                                have f13 : p ≤ 107 := by omega
                                have f14 : (p == 39) = false := by simp; omega
                                have f15 : (p == 49) = false := by simp; omega
                                have f16 : (p == 38) = false := by simp; omega
                                have f17 : (p == 48) = true := by simp; omega
                                obtain rfl : p = 48 := by omega
                                by_cases h1n : k + 1 < n
                                · have h1i : (k : Int) + 1 < (n : Int) := by omega
                                  have c1 : wr.cell? ⟨b, off + (k + 1), none⟩ = some (.int .i64 (zs.getD (k + 1) 0)) := HCL.out (k + 1) h1n
                                  obtain ⟨p0, hp0⟩ : ∃ p, zs.getD (k + 1) 0 = p := ⟨_, rfl⟩
                                  rw [hp0] at c1
                                  have HP0 : Hid ((zs.drop (k + 1)).getD 0 0 = p0) := Lib.hid (by rw [← hp0]; simp [List.getD_eq_getElem?_getD])
                                  clear hp0
                                  by_cases h5 : p0 = 5
                                  · have h5b : (p0 == 5) = true := by simp [h5]
                                    have h52 : (p0 == 2) = false := by simp; omega
                                    by_cases h2n : k + 2 < n
                                    · have h2i : (k : Int) + 2 < (n : Int) := by omega
                                      have c2 : wr.cell? ⟨b, off + (k + 2), none⟩ = some (.int .i64 (zs.getD (k + 2) 0)) := HCL.out (k + 2) h2n
                                      obtain ⟨p1, hp1⟩ : ∃ p, zs.getD (k + 2) 0 = p := ⟨_, rfl⟩
                                      rw [hp1] at c2
                                      have HE5 : Hid (aplS (if 0 ≤ p1 ∧ p1 ≤ 255 then ⟨s.fg, p1, s.b⟩ else s) (zs.drop (k + 3)) = R) := Lib.hid (by
                                        have e := apl_col5 (s := s) (z := 48) (ps := zs.drop (k + 1)) (.inr rfl) (by rw [HPL.out]; omega) (by rw [HP0.out]; exact h5)
                                        rw [if_pos (rfl : (48 : Int) = 48), show (zs.drop (k + 1)).getD 1 0 = p1 by rw [← hp1]; simp [List.getD_eq_getElem?_getD], List.drop_drop] at e
                                        exact e.symm.trans HEP.out)
                                      have cB : wr.cell? ⟨B, 1, none⟩ = some (.int .i64 s.bg) := (cell_of_row wr B 1 _ _ (0, 0) HS.out.hB).trans rfl
                                      have fB := frozen_of_row wr B 1 _ _ HS.out.hB
                                      clear hp1
                                      by_cases ha : 0 ≤ p1
                                      · by_cases hb : p1 ≤ 255
                                        · go_wp2_with fail
                                          exact ⟨⟨k + 3, ⟨s.fg, p1, s.b⟩, by omega, by go_num, Lib.hid (HS.out.bg p1), hsb, Lib.hid (by rw [← HE5.out, if_pos ⟨ha, hb⟩])⟩, by simp [intOf]; omega⟩
                                        · go_wp2_with fail
                                          exact ⟨⟨k + 3, s, by omega, by go_num, Lib.hid (HS.out), hsb, Lib.hid (by rw [← HE5.out, if_neg (fun h => hb h.2)])⟩, by simp [intOf]; omega⟩
                                      · go_wp2_with fail
                                        exact ⟨⟨k + 3, s, by omega, by go_num, Lib.hid (HS.out), hsb, Lib.hid (by rw [← HE5.out, if_neg (fun h => ha h.1)])⟩, by simp [intOf]; omega⟩
                                    · have h2i : ¬ (k : Int) + 2 < (n : Int) := by omega
                                      have HEQ : Hid (aplS s (zs.drop (k + 1)) = R) := Lib.hid ((apl_col0 (.inr rfl) (by rw [HPL.out, HP0.out]; omega) (by rw [HPL.out, HP0.out]; omega)).symm.trans HEP.out)
                                      go_wp2_with fail
                                      exact ⟨⟨k + 1, s, by omega, by go_num, Lib.hid (HS.out), hsb, Lib.hid (HEQ.out)⟩, by simp [intOf]; omega⟩
                                  · have h5b : (p0 == 5) = false := by simpa using h5
                                    by_cases h2 : p0 = 2
                                    · have h2b : (p0 == 2) = true := by simp [h2]
                                      have HEQ : Hid (aplS s (zs.drop (k + 5)) = R) := Lib.hid (by
                                        have e := apl_col2 (s := s) (z := 48) (ps := zs.drop (k + 1)) (.inr rfl) (by rw [HPL.out, HP0.out]; omega) (by rw [HPL.out]; omega) (by rw [HP0.out]; exact h2)
                                        rw [HEP.out, HPL.out] at e
                                        rw [e]
                                        by_cases h4 : 4 ≤ n - (k + 1)
                                        · rw [Nat.min_eq_left h4, List.drop_drop]
                                        · rw [Nat.min_eq_right (by omega), List.drop_drop, List.drop_eq_nil_of_le (by rw [HLN.out]; omega), List.drop_eq_nil_of_le (by rw [HLN.out]; omega)])
                                      go_wp2_with fail
                                      exact ⟨⟨k + 5, s, by omega, by go_num, Lib.hid (HS.out), hsb, Lib.hid (HEQ.out)⟩, by simp [intOf]; omega⟩
                                    · have h2b : (p0 == 2) = false := by simpa using h2
                                      have HEQ : Hid (aplS s (zs.drop (k + 1)) = R) := Lib.hid ((apl_col0 (.inr rfl) (by rw [HPL.out, HP0.out]; omega) (by rw [HPL.out, HP0.out]; omega)).symm.trans HEP.out)
                                      go_wp2_with fail
                                      exact ⟨⟨k + 1, s, by omega, by go_num, Lib.hid (HS.out), hsb, Lib.hid (HEQ.out)⟩, by simp [intOf]; omega⟩
                                · have h1i : ¬ (k : Int) + 1 < (n : Int) := by omega
                                  have HP0 : Hid ((zs.drop (k + 1)).getD 0 0 = 0) := Lib.hid (by rw [List.drop_eq_nil_of_le (by rw [HLN.out]; omega)]; rfl)
                                  have HEQ : Hid (aplS s (zs.drop (k + 1)) = R) := Lib.hid ((apl_col0 (.inr rfl) (by rw [HPL.out, HP0.out]; omega) (by rw [HPL.out, HP0.out]; omega)).symm.trans HEP.out)
                                  go_wp2_with fail
                                  exact ⟨⟨k + 1, s, by omega, by go_num, Lib.hid (HS.out), hsb, Lib.hid (HEQ.out)⟩, by simp [intOf]; omega⟩
                            · by_cases g6 : p ≤ 49
                              · as_aux_lemma =>
                                  have f0 : (p == 0) = false := by simp; omega
                                  have f1 : 1 ≤ p := by omega
                                  have f2 : ¬ p ≤ 9 := by omega
                                  have f3 : (p == 22) = false := by simp; omega
                                  have f4 : 23 ≤ p := by omega
                                  have f5 : ¬ p ≤ 29 := by omega
                                  have f6 : 30 ≤ p := by omega
                                  have f7 : ¬ p ≤ 37 := by omega
                                  have f8 : ¬ 90 ≤ p := by omega
                                  have f9 : p ≤ 97 := by omega
                                  have f10 : 40 ≤ p := by omega
                                  have f11 : ¬ p ≤ 47 := by omega
                                  have f12 : ¬ 100 ≤ p := by omega
                                  have f13 : p ≤ 107 := by omega
                                  have f14 : (p == 39) = false := by simp; omega
                                  have f15 : (p == 49) = true := by simp; omega
                                  have f16 : (p == 38) = false := by simp; omega
                                  have f17 : (p == 48) = false := by simp; omega
                                  obtain rfl : p = 49 := by omega
                                  have HEQ : Hid (aplS ⟨s.fg, -1, s.b⟩ (zs.drop (k + 1)) = R) := Lib.hid (by
                                    rw [← HEP.out, apl_step (by omega) (by omega)]
                                    unfold stepP
                                    rw [colF_no (by omega) (by omega) (by omega), colF_c (by omega), flB_other (by omega) (by omega) 8 (by omega)]
                                    rfl)
                                  have cB : wr.cell? ⟨B, 1, none⟩ = some (.int .i64 s.bg) := (cell_of_row wr B 1 _ _ (0, 0) HS.out.hB).trans rfl
                                  have fB := frozen_of_row wr B 1 _ _ HS.out.hB
                                  go_wp2_with fail
                                  exact ⟨⟨k + 1, ⟨s.fg, -1, s.b⟩, by omega, by go_num, Lib.hid (HS.out.bg _), hsb, Lib.hid (HEQ.out)⟩, by simp [intOf]; omega⟩
                              · by_cases g5 : p ≤ 89
                                · as_aux_lemma =>
                                    have f0 : (p == 0) = false := by simp; omega
                                    have f1 : 1 ≤ p := by omega
                                    have f2 : ¬ p ≤ 9 := by omega
                                    have f3 : (p == 22) = false := by simp; omega
                                    have f4 : 23 ≤ p := by omega
                                    have f5 : ¬ p ≤ 29 := by omega
                                    have f6 : 30 ≤ p := by omega
                                    have f7 : ¬ p ≤ 37 := by omega
                                    have f8 : ¬ 90 ≤ p := by omega
                                    have f9 : p ≤ 97 := by omega
                                    have f10 : 40 ≤ p := by omega
                                    have f11 : ¬ p ≤ 47 := by omega
                                    have f12 : ¬ 100 ≤ p := by omega
                                    have f13 : p ≤ 107 := by omega
                                    have f14 : (p == 39) = false := by simp; omega
                                    have f15 : (p == 49) = false := by simp; omega
                                    have f16 : (p == 38) = false := by simp; omega
                                    have f17 : (p == 48) = false := by simp; omega
                                    have HEQ : Hid (aplS s (zs.drop (k + 1)) = R) := Lib.hid (by
                                      rw [← HEP.out, apl_step (s := s) (z := p) (ps := zs.drop (k + 1)) (by omega) (by omega)]
                                      unfold stepP
                                      rw [colF_no (by omega) (by omega) (by omega), colF_no (by omega) (by omega) (by omega), flB_other (by omega) (by omega) 8 (by omega)]
                                      rfl)
                                    go_wp2_with fail
                                    exact ⟨⟨k + 1, s, by omega, by go_num, Lib.hid (HS.out), hsb, Lib.hid (HEQ.out)⟩, by simp [intOf]; omega⟩
                                · by_cases g4 : p ≤ 97
                                  · as_aux_lemma =>
                                      have f0 : (p == 0) = false := by simp; omega
                                      have f1 : 1 ≤ p := by omega
                                      have f2 : ¬ p ≤ 9 := by omega
                                      have f3 : (p == 22) = false := by simp; omega
                                      have f4 : 23 ≤ p := by omega
                                      have f5 : ¬ p ≤ 29 := by omega
                                      have f6 : 30 ≤ p := by omega
                                      have f7 : ¬ p ≤ 37 := by omega
                                      have f8 : 90 ≤ p := by omega
                                      have f9 : p ≤ 97 := by omega
                                      have f10 : 40 ≤ p := by omega
                                      have f11 : ¬ p ≤ 47 := by omega
                                      have f12 : ¬ 100 ≤ p := by omega
                                      have f13 : p ≤ 107 := by omega
                                      have f14 : (p == 39) = false := by simp; omega
                                      have f15 : (p == 49) = false := by simp; omega
                                      have f16 : (p == 38) = false := by simp; omega
                                      have f17 : (p == 48) = false := by simp; omega
                                      have hwp : IntKind.i64.wrap (p - 82) = p - 82 := IntWalk.i64_in _ (by omega)
                                      have HEQ : Hid (aplS ⟨p - 82, s.bg, s.b⟩ (zs.drop (k + 1)) = R) := Lib.hid (by
                                        rw [← HEP.out, apl_step (by omega) (by omega)]
                                        unfold stepP
                                        rw [colF_b (by omega), colF_no (by omega) (by omega) (by omega), flB_other (by omega) (by omega) 8 (by omega)]
                                        rw [show p - 30 - 52 = p - 82 by omega]
                                        rfl)
                                      have cB : wr.cell? ⟨B, 0, none⟩ = some (.int .i64 s.fg) := (cell_of_row wr B 0 _ _ (0, 0) HS.out.hB).trans rfl
                                      have fB := frozen_of_row wr B 0 _ _ HS.out.hB
                                      go_wp2_with fail
                                      exact ⟨⟨k + 1, ⟨p - 82, s.bg, s.b⟩, by omega, by go_num, Lib.hid (HS.out.fg _), hsb, Lib.hid (HEQ.out)⟩, by simp [intOf]; omega⟩
                                  · by_cases g3 : p ≤ 99
                                    · as_aux_lemma =>
                                        have f0 : (p == 0) = false := by simp; omega
                                        have f1 : 1 ≤ p := by omega
                                        have f2 : ¬ p ≤ 9 := by omega
                                        have f3 : (p == 22) = false := by simp; omega
                                        have f4 : 23 ≤ p := by omega
                                        have f5 : ¬ p ≤ 29 := by omega
                                        have f6 : 30 ≤ p := by omega
                                        have f7 : ¬ p ≤ 37 := by omega
                                        have f8 : 90 ≤ p := by omega
                                        have f9 : ¬ p ≤ 97 := by omega
                                        have f10 : 40 ≤ p := by omega
                                        have f11 : ¬ p ≤ 47 := by omega
                                        have f12 : ¬ 100 ≤ p := by omega
                                        have f13 : p ≤ 107 := by omega
                                        have f14 : (p == 39) = false := by simp; omega
                                        have f15 : (p == 49) = false := by simp; omega
                                        have f16 : (p == 38) = false := by simp; omega
                                        have f17 : (p == 48) = false := by simp; omega
                                        have HEQ : Hid (aplS s (zs.drop (k + 1)) = R) := Lib.hid (by
                                          rw [← HEP.out, apl_step (s := s) (z := p) (ps := zs.drop (k + 1)) (by omega) (by omega)]
                                          unfold stepP
                                          rw [colF_no (by omega) (by omega) (by omega), colF_no (by omega) (by omega) (by omega), flB_other (by omega) (by omega) 8 (by omega)]
                                          rfl)
                                        go_wp2_with fail
                                        exact ⟨⟨k + 1, s, by omega, by go_num, Lib.hid (HS.out), hsb, Lib.hid (HEQ.out)⟩, by simp [intOf]; omega⟩
                                    · by_cases g2 : p ≤ 107
                                      · as_aux_lemma =>
                                          have f0 : (p == 0) = false := by simp; omega
                                          have f1 : 1 ≤ p := by omega
                                          have f2 : ¬ p ≤ 9 := by omega
                                          have f3 : (p == 22) = false := by simp; omega
                                          have f4 : 23 ≤ p := by omega
                                          have f5 : ¬ p ≤ 29 := by omega
                                          have f6 : 30 ≤ p := by omega
                                          have f7 : ¬ p ≤ 37 := by omega
                                          have f8 : 90 ≤ p := by omega
                                          have f9 : ¬ p ≤ 97 := by omega
                                          have f10 : 40 ≤ p := by omega
                                          have f11 : ¬ p ≤ 47 := by omega
                                          have f12 : 100 ≤ p := by omega
                                          have f13 : p ≤ 107 := by omega
                                          have f14 : (p == 39) = false := by simp; omega
                                          have f15 : (p == 49) = false := by simp; omega
                                          have f16 : (p == 38) = false := by simp; omega
                                          have f17 : (p == 48) = false := by simp; omega
                                          have hwp : IntKind.i64.wrap (p - 92) = p - 92 := IntWalk.i64_in _ (by omega)
                                          have HEQ : Hid (aplS ⟨s.fg, p - 92, s.b⟩ (zs.drop (k + 1)) = R) := Lib.hid (by
                                            rw [← HEP.out, apl_step (by omega) (by omega)]
                                            unfold stepP
                                            rw [colF_no (by omega) (by omega) (by omega), colF_b (by omega), flB_other (by omega) (by omega) 8 (by omega)]
                                            rw [show p - 40 - 52 = p - 92 by omega]
                                            rfl)
                                          have cB : wr.cell? ⟨B, 1, none⟩ = some (.int .i64 s.bg) := (cell_of_row wr B 1 _ _ (0, 0) HS.out.hB).trans rfl
                                          have fB := frozen_of_row wr B 1 _ _ HS.out.hB
                                          go_wp2_with fail
                                          exact ⟨⟨k + 1, ⟨s.fg, p - 92, s.b⟩, by omega, by go_num, Lib.hid (HS.out.bg _), hsb, Lib.hid (HEQ.out)⟩, by simp [intOf]; omega⟩
                                      · as_aux_lemma =>
                                          have f0 : (p == 0) = false := by simp; omega
                                          have f1 : 1 ≤ p := by omega
                                          have f2 : ¬ p ≤ 9 := by omega
                                          have f3 : (p == 22) = false := by simp; omega
                                          have f4 : 23 ≤ p := by omega
                                          have f5 : ¬ p ≤ 29 := by omega
                                          have f6 : 30 ≤ p := by omega
                                          have f7 : ¬ p ≤ 37 := by omega
                                          have f8 : 90 ≤ p := by omega
                                          have f9 : ¬ p ≤ 97 := by omega
                                          have f10 : 40 ≤ p := by omega
                                          have f11 : ¬ p ≤ 47 := by omega
                                          have f12 : 100 ≤ p := by omega
                                          have f13 : ¬ p ≤ 107 := by omega
                                          have f14 : (p == 39) = false := by simp; omega
                                          have f15 : (p == 49) = false := by simp; omega
                                          have f16 : (p == 38) = false := by simp; omega
                                          have f17 : (p == 48) = false := by simp; omega
                                          have HEQ : Hid (aplS s (zs.drop (k + 1)) = R) := Lib.hid (by
                                            rw [← HEP.out, apl_step (s := s) (z := p) (ps := zs.drop (k + 1)) (by omega) (by omega)]
                                            unfold stepP
                                            rw [colF_no (by omega) (by omega) (by omega), colF_no (by omega) (by omega) (by omega), flB_other (by omega) (by omega) 8 (by omega)]
                                            rfl)
                                          go_wp2_with fail
                                          exact ⟨⟨k + 1, s, by omega, by go_num, Lib.hid (HS.out), hsb, Lib.hid (HEQ.out)⟩, by simp [intOf]; omega⟩
      · have hki : ¬ (k : Int) < (n : Int) := by omega
        have HSE : Hid (s = R) := Lib.hid (by
          rw [← HE.out, List.drop_eq_nil_of_le (by rw [HLN.out]; omega)]
          rfl)
        go_wp2_with (first | (with_reducible refine wpList_ldS rfl (.tmp 2) rfl rfl HS.out.hB ?_) | (with_reducible refine wpList_stS rfl (.tmp 4) (.tmp 161) rfl rfl rfl HS.out.hR ?_))
        refine bodyPost_ret (v := s.val) ?_ rfl ?_
        · exact results_style (fn := Try.f7) Try.results7 rfl (setRow_heap _ _ _ _ _ _ HS.out.hR)
        · exact ⟨by rw [HSE.out], by rw [HS.out.sz]; exact below_setRow HS.out.hL (by omega) _⟩
end Go.Proofs.Ytlejmllacikmeaa
