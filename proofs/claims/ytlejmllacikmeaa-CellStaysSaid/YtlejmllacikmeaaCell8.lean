/- What is proved: a style by value, opened; the law CellStyles answers true; conditions: those typed. -/
import Derived.Test.YtlejmllacikmeaaCell7
import Derived.ProofKit
import Derived.OpenShut
import Derived.Laws.IdiomArrays
import Derived.Lib.SmallJoins
set_option linter.unusedVariables false
set_option linter.unusedSimpArgs false
namespace Go.Proofs.Ytlejmllacikmeaa
open Go Go.ChangeShapes Go.WideShapes Go.RowKit Go.Joins Go.Deep
set_option maxRecDepth 100000
set_option maxHeartbeats 4000000
def mkB (x0 x1 x2 x3 x4 x5 x6 x7 : Bool) : Nat := 1 * x0.toNat + 2 * x1.toNat + 4 * x2.toNat + 8 * x3.toNat + 16 * x4.toNat + 32 * x5.toNat + 64 * x6.toNat + 128 * x7.toNat
theorem mkB_tb : ∀ x0 x1 x2 x3 x4 x5 x6 x7 : Bool, mkB x0 x1 x2 x3 x4 x5 x6 x7 < 256 ∧ tb (mkB x0 x1 x2 x3 x4 x5 x6 x7) 0 = x0 ∧ tb (mkB x0 x1 x2 x3 x4 x5 x6 x7) 1 = x1 ∧ tb (mkB x0 x1 x2 x3 x4 x5 x6 x7) 2 = x2 ∧ tb (mkB x0 x1 x2 x3 x4 x5 x6 x7) 3 = x3 ∧ tb (mkB x0 x1 x2 x3 x4 x5 x6 x7) 4 = x4 ∧ tb (mkB x0 x1 x2 x3 x4 x5 x6 x7) 5 = x5 ∧ tb (mkB x0 x1 x2 x3 x4 x5 x6 x7) 6 = x6 ∧ tb (mkB x0 x1 x2 x3 x4 x5 x6 x7) 7 = x7 := by decide
section
variable {H : Type} {enc : TypeId × Value → H} {W : World} {base : Nat} {spare : Nat → Bool} {held : Bool}
theorem openSty {r : Reach} {b0 : Nat} {v : Value} {d : DataW H} {ps : List MemPlace}
    (hv : Value.okWide Try.prog W r b0 23 v) (h : DataW.Trod enc Try.prog W base spare held 23 v d ps) : ∃ s : Sty, v = s.val ∧ s.b < 256 := by
  obtain ⟨cs, rfl, hsz⟩ := okWide_struct Try.underlying23 hv
  have hct : Try.prog.cellsOf 23 = 10 := by kernel_rfl
  have ci : Try.prog.cellsOf 3 = 1 := by kernel_rfl
  have cb : Try.prog.cellsOf 4 = 1 := by kernel_rfl
  rw [hct] at hsz
  obtain ⟨fuel, hf⟩ := h
  obtain ⟨xs, n, _, _, _, hlen, hg⟩ := DataW.trod_struct Try.underlying23 hf
  obtain ⟨l⟩ := cs
  match l, hsz with
  | [c0, c1, c2, c3, c4, c5, c6, c7, c8, c9], _ =>
    obtain ⟨y0, hy0⟩ : ∃ y, xs[0]? = some y := ⟨_, List.getElem?_eq_getElem (by rw [hlen]; decide)⟩
    have g0 := (hg 0 _ rfl).trans hy0
    simp [Value.cells, ci] at g0
    obtain ⟨n0, e0, _, w0⟩ := DataW.trod_int Try.underlying3 g0
    simp only [List.cons.injEq, and_true] at e0
    subst e0
    obtain ⟨y1, hy1⟩ : ∃ y, xs[1]? = some y := ⟨_, List.getElem?_eq_getElem (by rw [hlen]; decide)⟩
    have g1 := (hg 1 _ rfl).trans hy1
    simp [Value.cells, ci] at g1
    obtain ⟨n1, e1, _, w1⟩ := DataW.trod_int Try.underlying3 g1
    simp only [List.cons.injEq, and_true] at e1
    subst e1
    obtain ⟨y2, hy2⟩ : ∃ y, xs[2]? = some y := ⟨_, List.getElem?_eq_getElem (by rw [hlen]; decide)⟩
    have g2 := (hg 2 _ rfl).trans hy2
    simp [Value.cells, cb] at g2
    obtain ⟨b2, e2, _⟩ := DataW.trod_bool Try.underlying4 g2
    simp only [List.cons.injEq, and_true] at e2
    subst e2
    obtain ⟨y3, hy3⟩ : ∃ y, xs[3]? = some y := ⟨_, List.getElem?_eq_getElem (by rw [hlen]; decide)⟩
    have g3 := (hg 3 _ rfl).trans hy3
    simp [Value.cells, cb] at g3
    obtain ⟨b3, e3, _⟩ := DataW.trod_bool Try.underlying4 g3
    simp only [List.cons.injEq, and_true] at e3
    subst e3
    obtain ⟨y4, hy4⟩ : ∃ y, xs[4]? = some y := ⟨_, List.getElem?_eq_getElem (by rw [hlen]; decide)⟩
    have g4 := (hg 4 _ rfl).trans hy4
    simp [Value.cells, cb] at g4
    obtain ⟨b4, e4, _⟩ := DataW.trod_bool Try.underlying4 g4
    simp only [List.cons.injEq, and_true] at e4
    subst e4
    obtain ⟨y5, hy5⟩ : ∃ y, xs[5]? = some y := ⟨_, List.getElem?_eq_getElem (by rw [hlen]; decide)⟩
    have g5 := (hg 5 _ rfl).trans hy5
    simp [Value.cells, cb] at g5
    obtain ⟨b5, e5, _⟩ := DataW.trod_bool Try.underlying4 g5
    simp only [List.cons.injEq, and_true] at e5
    subst e5
    obtain ⟨y6, hy6⟩ : ∃ y, xs[6]? = some y := ⟨_, List.getElem?_eq_getElem (by rw [hlen]; decide)⟩
    have g6 := (hg 6 _ rfl).trans hy6
    simp [Value.cells, cb] at g6
    obtain ⟨b6, e6, _⟩ := DataW.trod_bool Try.underlying4 g6
    simp only [List.cons.injEq, and_true] at e6
    subst e6
    obtain ⟨y7, hy7⟩ : ∃ y, xs[7]? = some y := ⟨_, List.getElem?_eq_getElem (by rw [hlen]; decide)⟩
    have g7 := (hg 7 _ rfl).trans hy7
    simp [Value.cells, cb] at g7
    obtain ⟨b7, e7, _⟩ := DataW.trod_bool Try.underlying4 g7
    simp only [List.cons.injEq, and_true] at e7
    subst e7
    obtain ⟨y8, hy8⟩ : ∃ y, xs[8]? = some y := ⟨_, List.getElem?_eq_getElem (by rw [hlen]; decide)⟩
    have g8 := (hg 8 _ rfl).trans hy8
    simp [Value.cells, cb] at g8
    obtain ⟨b8, e8, _⟩ := DataW.trod_bool Try.underlying4 g8
    simp only [List.cons.injEq, and_true] at e8
    subst e8
    obtain ⟨y9, hy9⟩ : ∃ y, xs[9]? = some y := ⟨_, List.getElem?_eq_getElem (by rw [hlen]; decide)⟩
    have g9 := (hg 9 _ rfl).trans hy9
    simp [Value.cells, cb] at g9
    obtain ⟨b9, e9, _⟩ := DataW.trod_bool Try.underlying4 g9
    simp only [List.cons.injEq, and_true] at e9
    subst e9
    obtain ⟨k, k0, k1, k2, k3, k4, k5, k6, k7⟩ := mkB_tb b2 b3 b4 b5 b6 b7 b8 b9
    refine ⟨⟨n0, n1, mkB b2 b3 b4 b5 b6 b7 b8 b9⟩, ?_, k⟩
    unfold Sty.val Sty.row
    dsimp only
    rw [k0, k1, k2, k3, k4, k5, k6, k7]
end
theorem Inv.belowOf {w0 w : World} {γ : Gh} (h : Inv w0 (fun _ => False) γ w) : Below w0.heap.size w0 w :=
  ⟨h.os, h.tape, h.output, h.size, fun b hb => h.far b hb (fun h => h)⟩
theorem styles_any (s : Sty) (A : Option Addr) (n cap : Nat) (zs : List Int) (w : World) (hs : s.b < 256) (hwf : ∀ z ∈ zs, (Lit.int .i64 z).wf = true) (h : RdI w .i64 A n zs) (hcap : n ≤ cap) (hn47 : n ≤ 140737488355328) :
    Calls Try.prog 3 #[s.val, .slice A n cap] w fun e w' => e = .returned (.bool true) ∧ Below w.heap.size w w' := by
  obtain ⟨r, hr⟩ : ∃ r, applyS s zs = r := ⟨_, rfl⟩
  have hrb : r.b < 256 := by rw [← hr]; exact apply_lt hs
  have hq : ∀ w, (binOp .eql 23 r.val r.val).run Try.prog w = .ok (.bool true) w := fun w => (eqSty w r r hrb hrb).trans (by rw [(eqS_iff r r).2 rfl])
  have hg : ∀ w x y, (eqGuard .eql 23 x y r.val r.val).run Try.prog w = .ok () w := fun w x y => grdSty w .eql x y r r
  have HR := Lib.hid hr
  have HH := Lib.hid h
  clear hr h
  go_enter Try.func3, Try.ntmps3
  have e1 : s.val = .agg s.row := rfl
  rw [e1]
  obtain ⟨B, hB⟩ : ∃ B, w.heap.size = B := ⟨_, rfl⟩
  obtain ⟨V, hV⟩ : ∃ V, w.alloc (.cells s.row 23) = V := ⟨_, rfl⟩
  have HS0 : Hid (V.heap[B]? = some (.cells s.row 23 (0, 0))) := Lib.hid (by rw [← hV, ← hB]; exact heap_alloc_last _ _)
  have HL0 : Hid (Below B w V) := Lib.hid (by rw [← hV, ← hB]; (repeat' (first | (with_reducible exact Below.refl _ _) | (with_reducible assumption) | (with_reducible refine Below.alloc ?_ ?_ _) | (with_reducible refine below_setRow ?_ ?_ _) | (with_reducible refine bl_drew ?_) | (with_reducible refine bl_drewN ?_ _) | (with_reducible refine Below.setCell ?_ ?_ _) | (with_reducible refine bl_then ?_ ?_ hb) | (with_reducible refine bl_then ?_ ?_ hb1) | (with_reducible refine bl_then ?_ ?_ hb2) | (with_reducible refine bl_then ?_ ?_ hb3) | (with_reducible refine bl_then ?_ ?_ hb4) | (with_reducible refine bl_then ?_ ?_ hb5) | (with_reducible refine bl_then ?_ ?_ hb6) | (with_reducible refine bl_then ?_ ?_ hb7) | (with_reducible refine bl_then ?_ ?_ hb8) | (with_reducible exact Nat.le_refl _) | omega | (simp only [World.size_alloc, World.size_setCell, World.size_drew, size_setRow]; omega) | (simp; omega) | (simp; done))))
  have HRD : Hid (RdI V .i64 A n zs) := Lib.hid (HH.out.below (by rw [hB]; exact HL0.out))
  go_wp2_with fail
  try rw [hV]
  clear hV e1
  apply wp_region_eff _ _ (Inv.start0 V fun _ => False) (hm := by kernel_rfl)
  case h =>
    apply SeqF.read (v := s.val) []
    · (first | rfl | (go_simp; done) | (simp [Region.wanted, yielded]; done))
    · exact fun γ' U hg hI => exec_load rfl rfl (run_load_sty ((hI.far B (lt_of_heap HS0.out) id).trans HS0.out))
    go_simp
    (apply SeqF.pure; (focus (first | rfl | (go_simp; done) | (simp [Region.wanted, yielded]; done))); (focus (intro w; go_simp; with_reducible rfl)); go_simp)
    apply SeqF.call (v := r.val) [] 6 #[s.val, .slice A n cap]
    · (first | rfl | (go_simp; done) | (simp [Region.wanted, yielded]; done))
    · intro w; kernel_rfl
    · exact fun γ' U hg hI => (apply_any s A n cap zs U hs hwf (HRD.out.below hI.belowOf) hcap).mono (by rintro e W' ⟨rfl, hb⟩; exact ⟨by rw [HR.out], hI.below hb⟩)
    go_simp
    apply SeqF.read (v := s.val) []
    · (first | rfl | (go_simp; done) | (simp [Region.wanted, yielded]; done))
    · exact fun γ' U hg hI => exec_load rfl rfl (run_load_sty ((hI.far B (lt_of_heap HS0.out) id).trans HS0.out))
    go_simp
    (apply SeqF.pure; (focus (first | rfl | (go_simp; done) | (simp [Region.wanted, yielded]; done))); (focus (intro w; go_simp; with_reducible rfl)); go_simp)
    apply SeqF.call (v := r.val) [] 7 #[s.val, .slice A n cap]
    · (first | rfl | (go_simp; done) | (simp [Region.wanted, yielded]; done))
    · intro w; kernel_rfl
    · exact fun γ' U hg hI => (rapply_any s A n cap zs U hs hwf (HRD.out.below hI.belowOf) hn47).mono (by rintro e W' ⟨rfl, hb⟩; exact ⟨by rw [HR.out], hI.below hb⟩)
    go_simp
    (apply SeqF.pure; (focus (first | rfl | (go_simp; done) | (simp [Region.wanted, yielded]; done))); (focus (intro w; go_simp; with_reducible rfl)); go_simp)
    (apply SeqF.pure; (focus (first | rfl | (go_simp; done) | (simp [Region.wanted, yielded]; done))); (focus (intro w; go_simp; with_reducible rfl)); go_simp)
    apply SeqF.call (v := .bool true) [] 8 #[]
    · (first | rfl | (go_simp; done) | (simp [Region.wanted, yielded]; done))
    · intro w; kernel_rfl
    · exact fun γ' U hg hI => (anchored_any U).mono (by rintro e W' ⟨rfl, hb⟩; exact ⟨rfl, hI.below hb⟩)
    go_simp
    (apply SeqF.pure; (focus (first | rfl | (go_simp; done) | (simp [Region.wanted, yielded]; done))); (focus (intro w; go_simp; with_reducible rfl)); go_simp)
    (apply SeqF.pure; (focus (first | rfl | (go_simp; done) | (simp [Region.wanted, yielded]; done))); (focus (intro w; go_simp; with_reducible rfl)); go_simp)
    apply SeqF.done
    intro w9 hI9
    have HL9 := Lib.hid (hI9.belowS HL0.out (by have := lt_of_heap HS0.out; omega) (by rintro g h; cases h))
    clear hI9
    go_simp
    go_wp2_with fail
    go_ret
    exact ⟨rfl, by rw [hB]; exact HL9.out⟩
  case hl => rfl
  case ho => kernel_rfl
end Go.Proofs.Ytlejmllacikmeaa
