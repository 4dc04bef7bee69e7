/- What is proved: what end, add, digit, another of package vt and slices.Contains answer when they are called; conditions: those typed. -/
import Derived.Test.YtecgipccippddaaVt2
set_option linter.unusedSimpArgs false
set_option linter.unusedVariables false
namespace Go.Proofs.Ytecgipccippddaa
open Go.RowKit
set_option maxRecDepth 100000
set_option maxHeartbeats 8000000
theorem Inv.wide {w w1 : World} {S S' : Nat → Prop} (h : Inv w S gh0 w1) (hS : ∀ g, S g → S' g) : Inv w S' gh0 w1 where
  os := h.os
  tape := h.tape
  output := h.output
  size := h.size
  far g hg hn := h.far g hg (fun h' => hn (hS g h'))
  here t g o e := by cases e
  apart t t' g g' o o' e := by cases e
theorem PStep.grow_m {w wa w' : World} {P base : Nat} {s : VS} {vm vp vt v' : Value} {y : Int} (h : PW w P base s vm vp vt) (hb : Below w.heap.size w wa) (k1 : OwK .u8 5 w' base v' (s.mid ++ [y])) (k2 : wa.grownBy w' vm.ownBlock) (k4 : ∀ b, v'.ownBlock = some b → vm.ownBlock = some b ∨ w.heap.size ≤ b) :
    w'.heap[P]? = some (.cells (pcells s vm vp vt) 47 (0, 0)) ∧ PW (w'.setCell ⟨P, 2, none⟩ v') P base { s with mid := s.mid ++ [y] } v' vp vt ∧ Inv w (PB P vm vp vt) gh0 (w'.setCell ⟨P, 2, none⟩ v') ∧ ∀ g, PB P v' vp vt g → PB P vm vp vt g ∨ w.heap.size ≤ g := by
  have hwa := h.below hb
  have n0 := hwa.notP
  have hP' : w'.heap[P]? = some (.cells (pcells s vm vp vt) 47 (0, 0)) := (k2.block P (lt_of_heap hwa.hP) (fun e => n0.1 e.symm)).trans hwa.hP
  have a1 : OwK .i64 3 w' base vp s.ps := hwa.p.keep fun b hb2 hl => k2.block b hl (fun e => by
    obtain ⟨_, cur, hh⟩ := hwa.p.blk hb2
    exact hwa.m.ne e.symm hh (by decide))
  have a2 : OwK .i32 21 w' base vt s.tx := hwa.t.keep fun b hb2 hl => k2.block b hl (fun e => by
    obtain ⟨_, cur, hh⟩ := hwa.t.blk hb2
    exact hwa.m.ne e.symm hh (by decide))
  have hk : ∀ b, b ≠ P → (w'.setCell ⟨P, 2, none⟩ v').heap[b]? = w'.heap[b]? := fun b hb => heap_setCell_other _ ⟨_, _, _⟩ _ _ (by simpa using hb)
  have ko : OwK .u8 5 (w'.setCell ⟨P, 2, none⟩ v') base v' (s.mid ++ [y]) := k1.keep fun b hb _ => hk b (fun e => k1.ne (by rw [hb, e]) hP' (by decide))
  have o1 : OwK .i64 3 (w'.setCell ⟨P, 2, none⟩ v') base vp s.ps := a1.keep fun b hb _ => hk b (fun e => a1.ne (by rw [hb, e]) hP' (by decide))
  have o2 : OwK .i32 21 (w'.setCell ⟨P, 2, none⟩ v') base vt s.tx := a2.keep fun b hb _ => hk b (fun e => a2.ne (by rw [hb, e]) hP' (by decide))
  refine ⟨hP', ⟨heap_setCell_same _ _ _ _ _ _ hP', ko, o1, o2⟩, ?_, ?_⟩
  · exact ((Inv.ofBelow hb).then (Inv.ofGrown k2 (S := fun g => vm.ownBlock = some g) (fun g e => e)) (fun g hg _ => .inr (.inl hg))).then (Inv.ofSet (S := fun g => g = P) rfl) (fun g hg _ => .inl hg)
  · intro g hg
    rcases hg with hg | hg | hg | hg
    · exact .inl (.inl hg)
    · exact (k4 g hg).elim (fun hg => .inl (.inr (.inl hg))) .inr
    · exact .inl (.inr (.inr (.inl hg)))
    · exact .inl (.inr (.inr (.inr hg)))
theorem PStep.grow_p {w wa w' : World} {P base : Nat} {s : VS} {vm vp vt v' : Value} {y : Int} (h : PW w P base s vm vp vt) (hb : Below w.heap.size w wa) (k1 : OwK .i64 3 w' base v' (s.ps ++ [y])) (k2 : wa.grownBy w' vp.ownBlock) (k4 : ∀ b, v'.ownBlock = some b → vp.ownBlock = some b ∨ w.heap.size ≤ b) :
    w'.heap[P]? = some (.cells (pcells s vm vp vt) 47 (0, 0)) ∧ PW (w'.setCell ⟨P, 3, none⟩ v') P base { s with ps := s.ps ++ [y] } vm v' vt ∧ Inv w (PB P vm vp vt) gh0 (w'.setCell ⟨P, 3, none⟩ v') ∧ ∀ g, PB P vm v' vt g → PB P vm vp vt g ∨ w.heap.size ≤ g := by
  have hwa := h.below hb
  have n0 := hwa.notP
  have hP' : w'.heap[P]? = some (.cells (pcells s vm vp vt) 47 (0, 0)) := (k2.block P (lt_of_heap hwa.hP) (fun e => n0.2.1 e.symm)).trans hwa.hP
  have a1 : OwK .u8 5 w' base vm s.mid := hwa.m.keep fun b hb2 hl => k2.block b hl (fun e => by
    obtain ⟨_, cur, hh⟩ := hwa.m.blk hb2
    exact hwa.p.ne e.symm hh (by decide))
  have a2 : OwK .i32 21 w' base vt s.tx := hwa.t.keep fun b hb2 hl => k2.block b hl (fun e => by
    obtain ⟨_, cur, hh⟩ := hwa.t.blk hb2
    exact hwa.p.ne e.symm hh (by decide))
  have hk : ∀ b, b ≠ P → (w'.setCell ⟨P, 3, none⟩ v').heap[b]? = w'.heap[b]? := fun b hb => heap_setCell_other _ ⟨_, _, _⟩ _ _ (by simpa using hb)
  have ko : OwK .i64 3 (w'.setCell ⟨P, 3, none⟩ v') base v' (s.ps ++ [y]) := k1.keep fun b hb _ => hk b (fun e => k1.ne (by rw [hb, e]) hP' (by decide))
  have o1 : OwK .u8 5 (w'.setCell ⟨P, 3, none⟩ v') base vm s.mid := a1.keep fun b hb _ => hk b (fun e => a1.ne (by rw [hb, e]) hP' (by decide))
  have o2 : OwK .i32 21 (w'.setCell ⟨P, 3, none⟩ v') base vt s.tx := a2.keep fun b hb _ => hk b (fun e => a2.ne (by rw [hb, e]) hP' (by decide))
  refine ⟨hP', ⟨heap_setCell_same _ _ _ _ _ _ hP', o1, ko, o2⟩, ?_, ?_⟩
  · exact ((Inv.ofBelow hb).then (Inv.ofGrown k2 (S := fun g => vp.ownBlock = some g) (fun g e => e)) (fun g hg _ => .inr (.inr (.inl hg)))).then (Inv.ofSet (S := fun g => g = P) rfl) (fun g hg _ => .inl hg)
  · intro g hg
    rcases hg with hg | hg | hg | hg
    · exact .inl (.inl hg)
    · exact .inl (.inr (.inl hg))
    · exact (k4 g hg).elim (fun hg => .inl (.inr (.inr (.inl hg)))) .inr
    · exact .inl (.inr (.inr (.inr hg)))
theorem PStep.grow_t {w wa w' : World} {P base : Nat} {s : VS} {vm vp vt v' : Value} {y : Int} (h : PW w P base s vm vp vt) (hb : Below w.heap.size w wa) (k1 : OwK .i32 21 w' base v' (s.tx ++ [y])) (k2 : wa.grownBy w' vt.ownBlock) (k4 : ∀ b, v'.ownBlock = some b → vt.ownBlock = some b ∨ w.heap.size ≤ b) :
    w'.heap[P]? = some (.cells (pcells s vm vp vt) 47 (0, 0)) ∧ PW (w'.setCell ⟨P, 4, none⟩ v') P base { s with tx := s.tx ++ [y] } vm vp v' ∧ Inv w (PB P vm vp vt) gh0 (w'.setCell ⟨P, 4, none⟩ v') ∧ ∀ g, PB P vm vp v' g → PB P vm vp vt g ∨ w.heap.size ≤ g := by
  have hwa := h.below hb
  have n0 := hwa.notP
  have hP' : w'.heap[P]? = some (.cells (pcells s vm vp vt) 47 (0, 0)) := (k2.block P (lt_of_heap hwa.hP) (fun e => n0.2.2 e.symm)).trans hwa.hP
  have a1 : OwK .u8 5 w' base vm s.mid := hwa.m.keep fun b hb2 hl => k2.block b hl (fun e => by
    obtain ⟨_, cur, hh⟩ := hwa.m.blk hb2
    exact hwa.t.ne e.symm hh (by decide))
  have a2 : OwK .i64 3 w' base vp s.ps := hwa.p.keep fun b hb2 hl => k2.block b hl (fun e => by
    obtain ⟨_, cur, hh⟩ := hwa.p.blk hb2
    exact hwa.t.ne e.symm hh (by decide))
  have hk : ∀ b, b ≠ P → (w'.setCell ⟨P, 4, none⟩ v').heap[b]? = w'.heap[b]? := fun b hb => heap_setCell_other _ ⟨_, _, _⟩ _ _ (by simpa using hb)
  have ko : OwK .i32 21 (w'.setCell ⟨P, 4, none⟩ v') base v' (s.tx ++ [y]) := k1.keep fun b hb _ => hk b (fun e => k1.ne (by rw [hb, e]) hP' (by decide))
  have o1 : OwK .u8 5 (w'.setCell ⟨P, 4, none⟩ v') base vm s.mid := a1.keep fun b hb _ => hk b (fun e => a1.ne (by rw [hb, e]) hP' (by decide))
  have o2 : OwK .i64 3 (w'.setCell ⟨P, 4, none⟩ v') base vp s.ps := a2.keep fun b hb _ => hk b (fun e => a2.ne (by rw [hb, e]) hP' (by decide))
  refine ⟨hP', ⟨heap_setCell_same _ _ _ _ _ _ hP', o1, o2, ko⟩, ?_, ?_⟩
  · exact ((Inv.ofBelow hb).then (Inv.ofGrown k2 (S := fun g => vt.ownBlock = some g) (fun g e => e)) (fun g hg _ => .inr (.inr (.inr hg)))).then (Inv.ofSet (S := fun g => g = P) rfl) (fun g hg _ => .inl hg)
  · intro g hg
    rcases hg with hg | hg | hg | hg
    · exact .inl (.inl hg)
    · exact .inl (.inr (.inl hg))
    · exact .inl (.inr (.inr (.inl hg)))
    · exact (k4 g hg).elim (fun hg => .inl (.inr (.inr (.inr hg)))) .inr
theorem OwK.set {k : IntKind} {e : TypeId} {w : World} {base g cap i : Nat} {v : Value} {xs : List Int} (h : OwK k e w base v xs) (hv : v = .slice (some ⟨g, 0, none⟩) xs.length cap) (y : Int) : OwK k e (w.setCell ⟨g, i, none⟩ (.int k y)) base v (xs.set i y) := by
  obtain ⟨hl, ⟨h1, _⟩ | ⟨g0, cap0, cur, h1, hb, hh, h4, h5, h6, h7⟩⟩ := h
  · rw [hv] at h1; cases h1
  · rw [hv] at h1
    simp only [Value.slice.injEq, Option.some.injEq, Addr.mk.injEq, and_true, true_and] at h1
    obtain ⟨rfl, rfl⟩ := h1
    refine ⟨by simp, .inr ⟨g, cap, cur.setIfInBounds i (.int k y), by rw [hv]; simp, hb, heap_setCell_same _ _ _ _ _ _ hh, by simpa using h4, h5, by simpa using h6, ?_⟩⟩
    rw [Array.toList_setIfInBounds, List.length_set, List.take_set, h7, List.map_set]
/-- A parameter is written in place. -/
theorem PStep.elem {w : World} {P base g cap i : Nat} {s : VS} {vm vp vt : Value} (h : PW w P base s vm vp vt) (hv : vp = .slice (some ⟨g, 0, none⟩) s.ps.length cap) (y : Int) : PStep w (w.setCell ⟨g, i, none⟩ (.int .i64 y)) P base { s with ps := s.ps.set i y } vm vp vt := by
  have ho : vp.ownBlock = some g := by rw [hv]; rfl
  obtain ⟨_, cur, hg⟩ := h.p.blk ho
  have hk : ∀ b, b ≠ g → (w.setCell ⟨g, i, none⟩ (.int .i64 y)).heap[b]? = w.heap[b]? := fun b hb => heap_setCell_other _ ⟨_, _, _⟩ _ _ (by simpa using hb)
  refine ⟨vm, vp, vt, ⟨(hk P (fun e => h.notP.2.1 (by rw [ho, e]))).trans h.hP, h.m.keep fun b hb _ => hk b (fun e => h.m.ne (by rw [hb, e]) hg (by decide)), h.p.set hv y, h.t.keep fun b hb _ => hk b (fun e => h.t.ne (by rw [hb, e]) hg (by decide))⟩, Inv.ofSet (.inr (.inr (.inl ho))), fun g hg => .inl hg⟩
/-- What end answers. -/
structure EndOk (w w' : World) (P base : Nat) (bad : Bool) (row : Array Value) (v : Value) : Prop where
  pw : PW w' P base (freshS 1) (.slice none 0 0) (.slice none 0 0) (.slice none 0 0)
  inv : Inv w (fun g => g = P) gh0 w'
  res : bad = true ∧ v = .slice none 0 0 ∨ bad = false ∧ ∃ X, v = .slice (some ⟨X, 0, none⟩) 1 1 ∧ w.heap.size ≤ X ∧ w'.heap[X]? = some (.cells row 31 (0, 0))
theorem end_any (P base : Nat) (s : VS) (vm vp vt um up ut : Value) (k ch pv fi : Int) (w : World) (h : PW w P base s vm vp vt) (h1 : (∃ A n c, um = .slice A n c) ∧ (∃ A n c, up = .slice A n c) ∧ (∃ A n c, ut = .slice A n c)) :
    Calls Try.prog 25 #[.pointer (some ⟨P, 0, none⟩), .agg #[.int .u8 k, .int .i32 ch, .int .u8 pv, .int .u8 fi, um, up, ut]] w fun e w' => ∃ v, e = .returned v ∧ EndOk w w' P base s.bad #[.int .u8 k, .int .i32 ch, .int .u8 pv, .int .u8 fi, um, up, ut] v := by
  obtain ⟨⟨A1, n1, c1, rfl⟩, ⟨A2, n2, c2, rfl⟩, ⟨A3, n3, c3, rfl⟩⟩ := h1
  obtain ⟨B, hB⟩ : ∃ B, w.heap.size = B := ⟨_, rfl⟩
  obtain ⟨W0, hW0⟩ : ∃ W, w.alloc (.cells #[.int .u8 k, .int .i32 ch, .int .u8 pv, .int .u8 fi, .slice A1 n1 c1, .slice A2 n2 c2, .slice A3 n3 c3] 31) = W := ⟨_, rfl⟩
  have HBW : Hid (Below w.heap.size w W0) := Lib.hid (by rw [← hW0]; (repeat' (first | (with_reducible exact Below.refl _ _) | (with_reducible assumption) | (with_reducible refine Below.alloc ?_ ?_ _) | (with_reducible refine below_setRow ?_ ?_ _) | (with_reducible refine bl_drew ?_) | (with_reducible refine bl_drewN ?_ _) | (with_reducible refine Below.setCell ?_ ?_ _) | (with_reducible refine bl_then ?_ ?_ hb) | (with_reducible refine bl_then ?_ ?_ hb1) | (with_reducible refine bl_then ?_ ?_ hb2) | (with_reducible refine bl_then ?_ ?_ hb3) | (with_reducible refine bl_then ?_ ?_ hb4) | (with_reducible refine bl_then ?_ ?_ hb5) | (with_reducible refine bl_then ?_ ?_ hb6) | (with_reducible refine bl_then ?_ ?_ hb7) | (with_reducible refine bl_then ?_ ?_ hb8) | (with_reducible exact Nat.le_refl _) | omega | (simp only [World.size_alloc, World.size_setCell, World.size_drew, size_setRow]; omega) | (simp; omega) | (simp; done))))
  have HROW : Hid (W0.heap[B]? = some (.cells #[.int .u8 k, .int .i32 ch, .int .u8 pv, .int .u8 fi, .slice A1 n1 c1, .slice A2 n2 c2, .slice A3 n3 c3] 31 (0, 0))) := Lib.hid (by rw [← hW0, ← hB]; exact heap_alloc_last _ _)
  have h0 := h.below HBW.out
  have hPB : P < B := by rw [← hB]; exact lt_of_heap h.hP
  have H0 := Lib.hid h0
  have c5 : W0.cell? ⟨P, 5, none⟩ = some (.bool s.bad) := h0.cell rfl
  obtain ⟨b, hb⟩ : ∃ b, s.bad = b := ⟨_, rfl⟩
  rw [hb] at c5 ⊢
  clear h h0 hb
  go_enter Try.func25, Try.ntmps25
  go_wp2_with fail
  refine (to_any P base 1 s vm vp vt W0 H0.out).mono ?_
  rintro e w1 ⟨rfl, hp, hI⟩
  have HR1 := Lib.hid ((hI.far B (lt_of_heap HROW.out) (by omega)).trans HROW.out)
  have HP1 := Lib.hid hp
  have HI1 : Hid (Inv w (fun g => g = P) gh0 w1) := Lib.hid ((Inv.ofBelow HBW.out).then hI (fun g hg _ => hg))
  clear hp hI c5 hW0
  cases b with
  | true =>
    go_wp2_with fail
    go_ret
    exact ⟨_, rfl, HP1.out, HI1.out, .inl ⟨rfl, rfl⟩⟩
  | false =>
    obtain ⟨X, hX⟩ : ∃ X, w1.heap.size = X := ⟨_, rfl⟩
    have hb2 : Below w1.heap.size w1 (w1.alloc (.cells #[.int .u8 k, .int .i32 ch, .int .u8 pv, .int .u8 fi, .slice A1 n1 c1, .slice A2 n2 c2, .slice A3 n3 c3] 31)) := by (repeat' (first | (with_reducible exact Below.refl _ _) | (with_reducible assumption) | (with_reducible refine Below.alloc ?_ ?_ _) | (with_reducible refine below_setRow ?_ ?_ _) | (with_reducible refine bl_drew ?_) | (with_reducible refine bl_drewN ?_ _) | (with_reducible refine Below.setCell ?_ ?_ _) | (with_reducible refine bl_then ?_ ?_ hb) | (with_reducible refine bl_then ?_ ?_ hb1) | (with_reducible refine bl_then ?_ ?_ hb2) | (with_reducible refine bl_then ?_ ?_ hb3) | (with_reducible refine bl_then ?_ ?_ hb4) | (with_reducible refine bl_then ?_ ?_ hb5) | (with_reducible refine bl_then ?_ ?_ hb6) | (with_reducible refine bl_then ?_ ?_ hb7) | (with_reducible refine bl_then ?_ ?_ hb8) | (with_reducible exact Nat.le_refl _) | omega | (simp only [World.size_alloc, World.size_setCell, World.size_drew, size_setRow]; omega) | (simp; omega) | (simp; done)))
    have HB2 := Lib.hid hb2
    clear hb2
    go_wp2_with (with_reducible refine wpList_ldB (row := #[.int .u8 k, .int .i32 ch, .int .u8 pv, .int .u8 fi, .slice A1 n1 c1, .slice A2 n2 c2, .slice A3 n3 c3]) actInfo actRow rfl (.tmp 3) rfl rfl HR1.out ?_)
    go_ret
    exact ⟨_, rfl, HP1.out.below HB2.out, HI1.out.then (Inv.ofBelow (S := fun g => g = P) HB2.out) (fun g hg _ => hg), .inr ⟨rfl, X, rfl, by rw [← hX]; exact HI1.out.size, by rw [← hX]; exact heap_alloc_last _ _⟩⟩
theorem add_any (P base : Nat) (s : VS) (vm vp vt : Value) (c : Int) (hc : 0 ≤ c ∧ c ≤ 255) (w : World) (h : PW w P base s vm vp vt) (ho : VOk s) (hbase : base ≤ w.heap.size) :
    Calls Try.prog 36 #[.pointer (some ⟨P, 0, none⟩), .int .i32 c] w fun e w' => e = .returned (.tuple #[]) ∧ PStep w w' P base (addS s c) vm vp vt := by
  obtain ⟨A, cp, hvm⟩ := h.m.slice
  obtain ⟨n, hn⟩ : ∃ n, s.mid.length = n := ⟨_, rfl⟩
  have hn2 : n ≤ 2 := by rw [← hn]; exact ho.mid.1
  have HN := Lib.hid hn
  rw [hn] at hvm
  have HVM := Lib.hid hvm
  have H := Lib.hid h
  have c2 : w.cell? ⟨P, 2, none⟩ = some (.slice A n cp) := by rw [← hvm]; exact h.cell rfl
  have c5 : w.cell? ⟨P, 5, none⟩ = some (.bool s.bad) := h.cell rfl
  have hPl := lt_of_heap h.hP
  by_cases hf : 2 ≤ n
  · have hfi : (2 : Int) ≤ (n : Int) := by omega
    have hfz : w.frozen? ⟨P, 5, none⟩ = false := frozen_of_row w P 5 _ _ h.hP
    have HS : Hid (PStep w (w.setCell ⟨P, 5, none⟩ (.bool true)) P base (addS s c) vm vp vt) := Lib.hid (by
      unfold addS
      rw [if_pos (by rw [hn]; exact hf)]
      exact PStep.set h rfl rfl rfl rfl)
    clear h hn hvm
    go_enter Try.func36, Try.ntmps36
    go_wp2_with fail
    exact bodyPost_ret (v := .tuple #[]) (results_none rfl _ _ _) rfl ⟨rfl, HS.out⟩
  · have hfi : ¬ (2 : Int) ≤ (n : Int) := by omega
    have hwc : IntKind.u8.wrap c = c := by rw [IntKind.wrap_u8]; omega
    obtain ⟨X, hX⟩ : ∃ X, w.heap.size = X := ⟨_, rfl⟩
    have HBX : Hid (Below w.heap.size w (w.alloc (.cells #[.int .u8 c] 5))) := Lib.hid (by (repeat' (first | (with_reducible exact Below.refl _ _) | (with_reducible assumption) | (with_reducible refine Below.alloc ?_ ?_ _) | (with_reducible refine below_setRow ?_ ?_ _) | (with_reducible refine bl_drew ?_) | (with_reducible refine bl_drewN ?_ _) | (with_reducible refine Below.setCell ?_ ?_ _) | (with_reducible refine bl_then ?_ ?_ hb) | (with_reducible refine bl_then ?_ ?_ hb1) | (with_reducible refine bl_then ?_ ?_ hb2) | (with_reducible refine bl_then ?_ ?_ hb3) | (with_reducible refine bl_then ?_ ?_ hb4) | (with_reducible refine bl_then ?_ ?_ hb5) | (with_reducible refine bl_then ?_ ?_ hb6) | (with_reducible refine bl_then ?_ ?_ hb7) | (with_reducible refine bl_then ?_ ?_ hb8) | (with_reducible exact Nat.le_refl _) | omega | (simp only [World.size_alloc, World.size_setCell, World.size_drew, size_setRow]; omega) | (simp; omega) | (simp; done))))
    have HBASE : Hid (base ≤ (w.alloc (.cells #[.int .u8 c] 5)).heap.size) := Lib.hid (by simp; omega)
    have HX : Hid ((w.alloc (.cells #[.int .u8 c] 5)).heap[X]? = some (.cells #[.int .u8 c] 5 (0, 0))) := Lib.hid (by rw [← hX]; exact heap_alloc_last _ _)
    have HOWN : Hid (OwK .u8 5 (w.alloc (.cells #[.int .u8 c] 5)) base (.slice A n cp) s.mid) := Lib.hid (by rw [← hvm]; exact h.m.below HBX.out)
    have HLEN : Hid (s.mid.length ≤ 1000000) := Lib.hid (by omega)
    clear hn hvm
    go_enter Try.func36, Try.ntmps36
    go_wp2_with (at_builtin; refine wpList_app_b (base := base) rfl _ _ rfl (.slice A n cp) s.mid c X rfl HOWN.out rfl HX.out HLEN.out HBASE.out ?_)
    · intro v' w' k1 k2 k4
      rw [← HVM.out] at k2 k4
      obtain ⟨g1, g2, g3, g4⟩ := PStep.grow_m H.out HBX.out k1 k2 (fun b hb => k4.elim (fun e => .inl (e ▸ hb)) (fun e => .inr (by rw [e] at hb; simp only [Option.some.injEq] at hb; omega)))
      obtain ⟨A3, c3, hv3⟩ := k1.slice
      obtain ⟨m3, hm3⟩ : ∃ m, (s.mid ++ [c]).length = m := ⟨_, rfl⟩
      rw [hm3] at hv3
      subst hv3
      have d2 : w'.cell? ⟨P, 2, none⟩ = some vm := (cell_of_row _ _ _ _ _ _ g1).trans rfl
      have hfz : w'.frozen? ⟨P, 2, none⟩ = false := frozen_of_row w' P 2 _ _ g1
      have HS : Hid (PStep w (w'.setCell ⟨P, 2, none⟩ (.slice A3 m3 c3)) P base (addS s c) vm vp vt) := Lib.hid (by
        unfold addS
        rw [if_neg (by rw [HN.out]; exact hf)]
        exact ⟨_, _, _, g2, g3, g4⟩)
      clear k1 k2 k4 g1 g2 g3 g4 hm3
      go_wp2_with fail
      exact bodyPost_end (v := .tuple #[]) (results_none rfl _ _ _) rfl ⟨rfl, HS.out⟩
end Go.Proofs.Ytecgipccippddaa
