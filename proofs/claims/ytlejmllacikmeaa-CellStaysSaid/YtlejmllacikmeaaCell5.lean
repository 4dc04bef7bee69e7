/- What is proved: cells in memory, and what make2 and Put of package cell answer when they are called; conditions: those typed. -/
import Derived.Test.YtlejmllacikmeaaCell2
set_option linter.unusedSimpArgs false
set_option linter.unusedVariables false
namespace Go.Proofs.Ytlejmllacikmeaa
open Go.RowKit
set_option maxRecDepth 100000
set_option maxHeartbeats 4000000
/-- A cell: the character, three marks, the width, the style. -/
structure Cel where
  c : Int
  m0 : Int
  m1 : Int
  m2 : Int
  w : Int
  s : Sty
def Cel.row (x : Cel) : Array Value := #[.int .i32 x.c, .int .i32 x.m0, .int .i32 x.m1, .int .i32 x.m2, .int .u8 x.w, .int .i64 x.s.fg, .int .i64 x.s.bg, .bool (tb x.s.b 0), .bool (tb x.s.b 1), .bool (tb x.s.b 2), .bool (tb x.s.b 3), .bool (tb x.s.b 4), .bool (tb x.s.b 5), .bool (tb x.s.b 6), .bool (tb x.s.b 7)]
def Cel.val (x : Cel) : Value := .agg x.row
theorem run_load_blk {w : World} {g : Nat} {row : Array Value} {ty t : TypeId} (hi : (Try.prog.info? ty).map (·.size) = some row.size) (hu : ∃ d, Try.prog.underlying ty = some d ∧ d.isRow = true) (hg : w.heap[g]? = some (.cells row t (0, 0))) : (Instr.loadAt ty (.pointer (some ⟨g, 0, none⟩))).run Try.prog w = .ok (.agg row) w := by
  obtain ⟨d, hu, hd⟩ := hu
  have h := run_loadVar_mid (P := Try.prog) w g 0 ty row.toList d (fun j v hv => by
    rw [Array.getElem?_toList] at hv
    rw [Nat.zero_add, cell_of_row w g j _ _ (0, 0) hg]
    exact hv) hu hd (by rw [hi, Array.length_toList])
  rw [Array.toArray_toList] at h
  simp only [Instr.loadAt, Instr.sureAddr, Sem.run_bind, Sem.run_pure, Result.andThen]
  exact h
theorem celInfo : (Try.prog.info? 36).map (·.size) = some 15 := by kernel_rfl
theorem celRow : ∃ d, Try.prog.underlying 36 = some d ∧ d.isRow = true := ⟨_, Try.underlying36, rfl⟩
theorem styRow : ∃ d, Try.prog.underlying 23 = some d ∧ d.isRow = true := ⟨_, Try.underlying23, rfl⟩
def gh0 : Gh := fun _ => none
theorem Inv.start0 (w0 : World) (S : Nat → Prop) : Inv w0 S gh0 w0.drew := Inv.start w0 S gh0 (by intro t g o h; cases h) (by intro t t' g g' o o' h; cases h)
theorem make2_two (s : Sty) (w : World) : Calls Try.prog 27 #[s.val, .int .i64 2] w fun e w' => (∃ v, e = .returned v ∧ w'.ownsRow w.heap.size 36 15 v 1 (Cel.mk 0 0 0 0 0 s).row.toList) ∧ Below w.heap.size w w' := by
  obtain ⟨fg, bg, b⟩ := s
  unfold Sty.val Sty.row Cel.row
  dsimp only
  generalize tb b 0 = b0
  generalize tb b 1 = b1
  generalize tb b 2 = b2
  generalize tb b 3 = b3
  generalize tb b 4 = b4
  generalize tb b 5 = b5
  generalize tb b 6 = b6
  generalize tb b 7 = b7
  go_enter Try.func27, Try.ntmps27
  go_wp2_with fail
  refine bodyPost_ret (v := .slice (some ⟨w.heap.size + 1, 0, none⟩) 1 1) (by simp [results, Try.results27, go_sem]) rfl ⟨⟨_, rfl, ?_⟩, ?_⟩
  · exact ⟨rfl, .inr ⟨w.heap.size + 1, 1, #[.int .i32 0, .int .i32 0, .int .i32 0, .int .i32 0, .int .u8 0, .int .i64 fg, .int .i64 bg, .bool b0, .bool b1, .bool b2, .bool b3, .bool b4, .bool b5, .bool b6, .bool b7], rfl, by omega, by (simp only [heap_setRow_if, heap_alloc_if, heap_setCell_if, World.size_alloc, size_setRow, World.size_setCell]; simp), by omega, by simp [maxLen], rfl, rfl⟩⟩
  · (repeat' (first | (with_reducible exact Below.refl _ _) | (with_reducible assumption) | (with_reducible refine Below.alloc ?_ ?_ _) | (with_reducible refine below_setRow ?_ ?_ _) | (with_reducible refine bl_drew ?_) | (with_reducible refine bl_drewN ?_ _) | (with_reducible refine Below.setCell ?_ ?_ _) | (with_reducible refine bl_then ?_ ?_ hb) | (with_reducible refine bl_then ?_ ?_ hb1) | (with_reducible refine bl_then ?_ ?_ hb2) | (with_reducible refine bl_then ?_ ?_ hb3) | (with_reducible refine bl_then ?_ ?_ hb4) | (with_reducible refine bl_then ?_ ?_ hb5) | (with_reducible refine bl_then ?_ ?_ hb6) | (with_reducible refine bl_then ?_ ?_ hb7) | (with_reducible refine bl_then ?_ ?_ hb8) | (with_reducible exact Nat.le_refl _) | omega | (simp only [World.size_alloc, World.size_setCell, World.size_drew, size_setRow]; omega) | (simp; omega) | (simp; done)))
theorem make2_no (s : Sty) (n : Int) (hn : ¬ n = 2) (w : World) : Calls Try.prog 27 #[s.val, .int .i64 n] w fun e w' => e = .returned (.slice none 0 0) ∧ Below w.heap.size w w' := by
  have hnb : (n != 2) = true := by simpa using hn
  unfold Sty.val Sty.row
  go_enter Try.func27, Try.ntmps27
  go_wp2_with fail
  refine bodyPost_ret (v := .slice none 0 0) (by simp [results, Try.results27, go_sem]) rfl ⟨rfl, ?_⟩
  (repeat' (first | (with_reducible exact Below.refl _ _) | (with_reducible assumption) | (with_reducible refine Below.alloc ?_ ?_ _) | (with_reducible refine below_setRow ?_ ?_ _) | (with_reducible refine bl_drew ?_) | (with_reducible refine bl_drewN ?_ _) | (with_reducible refine Below.setCell ?_ ?_ _) | (with_reducible refine bl_then ?_ ?_ hb) | (with_reducible refine bl_then ?_ ?_ hb1) | (with_reducible refine bl_then ?_ ?_ hb2) | (with_reducible refine bl_then ?_ ?_ hb3) | (with_reducible refine bl_then ?_ ?_ hb4) | (with_reducible refine bl_then ?_ ?_ hb5) | (with_reducible refine bl_then ?_ ?_ hb6) | (with_reducible refine bl_then ?_ ?_ hb7) | (with_reducible refine bl_then ?_ ?_ hb8) | (with_reducible exact Nat.le_refl _) | omega | (simp only [World.size_alloc, World.size_setCell, World.size_drew, size_setRow]; omega) | (simp; omega) | (simp; done)))
theorem Inv.belowS {w w0 w1 : World} {S : Nat → Prop} {γ : Gh} {B : Nat} (h : Inv w0 S γ w1) (hb : Below B w w0) (hB : B ≤ w0.heap.size) (hS : ∀ g, S g → B ≤ g) : Below B w w1 :=
  ⟨h.os.trans hb.os, h.tape.trans hb.tape, h.output.trans hb.output, Nat.le_trans hb.size h.size, fun k hk => (h.far k (by omega) (fun hs => by have := hS k hs; omega)).trans (hb.block k hk)⟩
theorem news_take {W : World} {g : Nat} {cur : Array Value} {t : TypeId} {m : Nat} {news : List Value} (h : W.heap[g]? = some (.cells cur t (0, 0))) (ht : cur.toList.take m = news) (j : Nat) (u : Value) (hu : news[j]? = some u) : W.cell? ((⟨g, 0, none⟩ : Addr).add j) = some u := by
  have e : (⟨g, 0, none⟩ : Addr).add j = ⟨g, j, none⟩ := by unfold Addr.add; split <;> simp_all
  rw [e, cell_of_row W g j _ _ (0, 0) h]
  rw [← ht, List.getElem?_take] at hu
  split at hu
  · rw [Array.getElem?_toList] at hu
    exact hu
  · cases hu
/-- The cells of a character. -/
def putS (c : Int) (s : Sty) : List Cel := if widthOf c = 1 then [⟨c, 0, 0, 0, 1, s⟩] else if widthOf c = 2 then [⟨c, 0, 0, 0, 2, s⟩, ⟨0, 0, 0, 0, 0, s⟩] else []
def flatX (l : List Cel) : List Value := l.flatMap fun x => x.row.toList
theorem rv1 {X : Nat} {row : Array Value} {t : TypeId} {f : Nat × Nat} (h : row.size = 15) : rowVal 15 1 (some (X, .cells row t f)) = .slice (some ⟨X, 0, none⟩) 1 1 := by
  show Value.slice _ 1 (row.size / 15) = _
  rw [h]
theorem put_any (c : Int) (s : Sty) (w : World) : Calls Try.prog 13 #[.int .i32 c, s.val] w fun e w' => (∃ v, e = .returned v ∧ w'.ownsRow w.heap.size 36 15 v (putS c s).length (flatX (putS c s))) ∧ Below w.heap.size w w' := by
  obtain ⟨k, hk⟩ : ∃ k, widthOf c = k := ⟨_, rfl⟩
  obtain ⟨fg, bg, b⟩ := s
  have HK := Lib.hid hk
  have HPS : Hid (putS c ⟨fg, bg, b⟩ = if k = 1 then [⟨c, 0, 0, 0, 1, ⟨fg, bg, b⟩⟩] else if k = 2 then [⟨c, 0, 0, 0, 2, ⟨fg, bg, b⟩⟩, ⟨0, 0, 0, 0, 0, ⟨fg, bg, b⟩⟩] else []) := Lib.hid (by unfold putS; rw [hk])
  rw [HPS.out]
  clear hk
  by_cases h1 : k = 1
  · subst h1
    rw [if_pos rfl]
    have HM2 := Lib.hid (fun w => make2_no ⟨fg, bg, b⟩ 1 (by decide) w)
    show Calls Try.prog 13 #[.int .i32 c, .agg #[.int .i64 fg, .int .i64 bg, .bool (tb b 0), .bool (tb b 1), .bool (tb b 2), .bool (tb b 3), .bool (tb b 4), .bool (tb b 5), .bool (tb b 6), .bool (tb b 7)]] w fun e w' => (∃ v, e = .returned v ∧ w'.ownsRow w.heap.size 36 15 v 1 (#[.int .i32 c, .int .i32 0, .int .i32 0, .int .i32 0, .int .u8 1, .int .i64 fg, .int .i64 bg, .bool (tb b 0), .bool (tb b 1), .bool (tb b 2), .bool (tb b 3), .bool (tb b 4), .bool (tb b 5), .bool (tb b 6), .bool (tb b 7)] : Array Value).toList) ∧ Below w.heap.size w w'
    unfold Sty.val Sty.row at HM2
    dsimp only at HM2
    generalize tb b 0 = b0 at *
    generalize tb b 1 = b1 at *
    generalize tb b 2 = b2 at *
    generalize tb b 3 = b3 at *
    generalize tb b 4 = b4 at *
    generalize tb b 5 = b5 at *
    generalize tb b 6 = b6 at *
    generalize tb b 7 = b7 at *
    go_enter Try.func13, Try.ntmps13
    go_wp2_with fail
    refine (of_any c _).mono ?_
    rintro e w1 ⟨rfl, hb⟩
    rw [HK.out]
    obtain ⟨S, hS⟩ : ∃ S, w.heap.size = S := ⟨_, rfl⟩
    have hsz := hb.size
    simp only [World.size_alloc, World.size_setCell, size_setRow, hS] at hsz
    have HS1 : Hid (w1.heap[S]? = some (.cells #[.int .i64 fg, .int .i64 bg, .bool b0, .bool b1, .bool b2, .bool b3, .bool b4, .bool b5, .bool b6, .bool b7] 23 (0, 0))) := Lib.hid ((hb.block S (by simp [hS]; omega)).trans (by rw [← hS]; (simp only [heap_setRow_if, heap_alloc_if, heap_setCell_if, World.size_alloc, size_setRow, World.size_setCell]; simp)))
    have HX1 : Hid (w1.heap[S + 1]? = some (.cells #[.int .i32 c, .int .i32 0, .int .i32 0, .int .i32 0, .int .u8 0, .int .i64 fg, .int .i64 bg, .bool b0, .bool b1, .bool b2, .bool b3, .bool b4, .bool b5, .bool b6, .bool b7] 36 (0, 0))) := Lib.hid ((hb.block (S + 1) (by simp [hS])).trans (by rw [← hS]; (simp only [heap_setRow_if, heap_alloc_if, heap_setCell_if, World.size_alloc, size_setRow, World.size_setCell]; simp)))
    have HL1 : Hid (Below S w w1) := Lib.hid (by rw [← hS]; exact bl_then (by (repeat' (first | (with_reducible exact Below.refl _ _) | (with_reducible assumption) | (with_reducible refine Below.alloc ?_ ?_ _) | (with_reducible refine below_setRow ?_ ?_ _) | (with_reducible refine bl_drew ?_) | (with_reducible refine bl_drewN ?_ _) | (with_reducible refine Below.setCell ?_ ?_ _) | (with_reducible refine bl_then ?_ ?_ hb) | (with_reducible refine bl_then ?_ ?_ hb1) | (with_reducible refine bl_then ?_ ?_ hb2) | (with_reducible refine bl_then ?_ ?_ hb3) | (with_reducible refine bl_then ?_ ?_ hb4) | (with_reducible refine bl_then ?_ ?_ hb5) | (with_reducible refine bl_then ?_ ?_ hb6) | (with_reducible refine bl_then ?_ ?_ hb7) | (with_reducible refine bl_then ?_ ?_ hb8) | (with_reducible exact Nat.le_refl _) | omega | (simp only [World.size_alloc, World.size_setCell, World.size_drew, size_setRow]; omega) | (simp; omega) | (simp; done)))) (by simp; omega) hb)
    clear hb
    have c4 : w1.cell? ⟨S + 1, 4, none⟩ = some (.int .u8 0) := (cell_of_row w1 (S + 1) 4 _ _ (0, 0) HX1.out).trans rfl
    have g4 := frozen_of_row w1 (S + 1) 4 _ _ HX1.out
    rw [hS]
    have hwk : IntKind.u8.wrap 1 = 1 := by decide
    go_wp2_with fail
    have HX2 : Hid ((w1.setCell ⟨S + 1, 4, none⟩ (.int .u8 1)).heap[S + 1]? = some (.cells #[.int .i32 c, .int .i32 0, .int .i32 0, .int .i32 0, .int .u8 1, .int .i64 fg, .int .i64 bg, .bool b0, .bool b1, .bool b2, .bool b3, .bool b4, .bool b5, .bool b6, .bool b7] 36 (0, 0))) := Lib.hid ((heap_setCell_same _ _ 4 _ _ _ HX1.out).trans rfl)
    have HS2 : Hid ((w1.setCell ⟨S + 1, 4, none⟩ (.int .u8 1)).heap[S]? = some (.cells #[.int .i64 fg, .int .i64 bg, .bool b0, .bool b1, .bool b2, .bool b3, .bool b4, .bool b5, .bool b6, .bool b7] 23 (0, 0))) := Lib.hid ((heap_setCell_other _ ⟨_, _, _⟩ _ _ (by simp)).trans HS1.out)
    have HL2 : Hid (Below S w (w1.setCell ⟨S + 1, 4, none⟩ (.int .u8 1))) := Lib.hid (HL1.out.setCell (by simp) _)
    generalize w1.setCell ⟨S + 1, 4, none⟩ (.int .u8 1) = W at *
    clear HS1 HX1 HL1 c4 g4
    obtain ⟨it, hit, hz, hs1, hs8⟩ : ∃ i, Try.prog.info? 36 = some i ∧ i.zero = some (.agg #[.int .i32 0, .int .i32 0, .int .i32 0, .int .i32 0, .int .u8 0, .int .i64 0, .int .i64 0, .bool false, .bool false, .bool false, .bool false, .bool false, .bool false, .bool false, .bool false]) ∧ i.size = 15 ∧ i.bytes = 48 := by
      obtain ⟨i, h, h2⟩ := Option.map_eq_some_iff.1 (show (Try.prog.info? 36).map (fun i => (i.zero, i.size, i.bytes)) = some (some (.agg #[.int .i32 0, .int .i32 0, .int .i32 0, .int .i32 0, .int .u8 0, .int .i64 0, .int .i64 0, .bool false, .bool false, .bool false, .bool false, .bool false, .bool false, .bool false, .bool false]), 15, 48) by kernel_rfl)
      simp only [Prod.mk.injEq] at h2
      exact ⟨i, h, h2.1, h2.2.1, h2.2.2⟩
    apply wp_region_eff _ _ (Inv.start0 W fun _ => False) (hm := by kernel_rfl)
    case h =>
      apply SeqF.read (v := .agg #[.int .i32 c, .int .i32 0, .int .i32 0, .int .i32 0, .int .u8 1, .int .i64 fg, .int .i64 bg, .bool b0, .bool b1, .bool b2, .bool b3, .bool b4, .bool b5, .bool b6, .bool b7]) []
      · (first | rfl | (go_simp; done) | (simp [Region.wanted, yielded]; done))
      · exact fun γ' V hg hI => exec_load rfl rfl (run_load_blk celInfo celRow ((hI.far (S + 1) (lt_of_heap HX2.out) id).trans HX2.out))
      go_simp
      apply SeqF.new [] 0 (fun g => .slice (some ⟨g, 0, none⟩) 1 1) (fun _ => .cells #[.int .i32 c, .int .i32 0, .int .i32 0, .int .i32 0, .int .u8 1, .int .i64 fg, .int .i64 bg, .bool b0, .bool b1, .bool b2, .bool b3, .bool b4, .bool b5, .bool b6, .bool b7] 36 (0, 0))
      · intro γ' _; rfl
      · (first | rfl | (go_simp; done) | (simp [Region.wanted, yielded]; done))
      · intro γ' V hg hI; kernel_rfl
      intro X hX
      go_simp
      apply SeqF.read (v := .agg #[.int .i64 fg, .int .i64 bg, .bool b0, .bool b1, .bool b2, .bool b3, .bool b4, .bool b5, .bool b6, .bool b7]) []
      · (first | rfl | (go_simp; done) | (simp [Region.wanted, yielded]; done))
      · exact fun γ' V hg hI => exec_load rfl rfl (run_load_blk styInfo styRow ((hI.far S (lt_of_heap HS2.out) id).trans HS2.out))
      go_simp
      (apply SeqF.pure; (focus (first | rfl | (go_simp; done) | (simp [Region.wanted, yielded]; done))); (focus (intro w; go_simp; with_reducible rfl)); go_simp)
      apply SeqF.call (v := .slice none 0 0) [] 27 #[.agg #[.int .i64 fg, .int .i64 bg, .bool b0, .bool b1, .bool b2, .bool b3, .bool b4, .bool b5, .bool b6, .bool b7], .int .i64 1]
      · (first | rfl | (go_simp; done) | (simp [Region.wanted, yielded]; done))
      · intro w; kernel_rfl
      · exact fun γ' V hg hI => (HM2.out V).mono (by rintro e W' ⟨rfl, hb⟩; exact ⟨rfl, hI.below hb⟩)
      go_simp
      have q0 : (gh0.set (some 0) (some (X, .cells #[.int .i32 c, .int .i32 0, .int .i32 0, .int .i32 0, .int .u8 1, .int .i64 fg, .int .i64 bg, .bool b0, .bool b1, .bool b2, .bool b3, .bool b4, .bool b5, .bool b6, .bool b7] 36 (0, 0)))) 0 = some (X, .cells #[.int .i32 c, .int .i32 0, .int .i32 0, .int .i32 0, .int .u8 1, .int .i64 fg, .int .i64 bg, .bool b0, .bool b1, .bool b2, .bool b3, .bool b4, .bool b5, .bool b6, .bool b7] 36 (0, 0)) := Gh.set_here _ _ _
      generalize (gh0.set (some 0) (some (X, .cells #[.int .i32 c, .int .i32 0, .int .i32 0, .int .i32 0, .int .u8 1, .int .i64 fg, .int .i64 bg, .bool b0, .bool b1, .bool b2, .bool b3, .bool b4, .bool b5, .bool b6, .bool b7] 36 (0, 0)))) = γ2 at q0 ⊢
      apply SeqF.dyn [0] (fun γ => rowVal 15 1 (γ 0))
      · intro γ' hg; simp only [hg 0 (by simp)]
      · (first | rfl | (go_simp; done) | (simp [Region.wanted, yielded]; done))
      · intro γ' V hg hI
        rw [q0, rv1 rfl]
        go_simp
      rw [q0]
      apply SeqF.dyn [0] (fun γ => rowVal 15 1 (γ 0))
      · intro γ' hg; simp only [hg 0 (by simp)]
      · (first | rfl | (go_simp; done) | (simp [Region.wanted, yielded]; done))
      · intro γ' V hg hI
        rw [q0]
        go_simp
      rw [q0]
      apply SeqF.done
      intro w9 hI9
      have HO : Hid (w9.ownsRow S 36 15 (.slice (some ⟨X, 0, none⟩) 1 1) 1 (#[.int .i32 c, .int .i32 0, .int .i32 0, .int .i32 0, .int .u8 1, .int .i64 fg, .int .i64 bg, .bool b0, .bool b1, .bool b2, .bool b3, .bool b4, .bool b5, .bool b6, .bool b7] : Array Value).toList) := Lib.hid ⟨rfl, .inr ⟨X, 1, #[.int .i32 c, .int .i32 0, .int .i32 0, .int .i32 0, .int .u8 1, .int .i64 fg, .int .i64 bg, .bool b0, .bool b1, .bool b2, .bool b3, .bool b4, .bool b5, .bool b6, .bool b7], rfl, by have := lt_of_heap HS2.out; omega, (hI9.here 0 X _ q0).1, by omega, by simp [maxLen], rfl, rfl⟩⟩
      have HL9 := Lib.hid (hI9.belowS HL2.out (by have := lt_of_heap HS2.out; omega) (by rintro g h; cases h))
      clear hI9
      rw [rv1 rfl]
      go_simp
      go_wp2_with fail
      refine bodyPost_ret (v := .slice (some ⟨X, 0, none⟩) 1 1) (by simp [results, Try.results13, go_sem]) rfl ⟨⟨_, rfl, ?_⟩, ?_⟩
      · (try rw [hS]); exact HO.out
      · (try rw [hS]); exact HL9.out
    case hl => rfl
    case ho => kernel_rfl
  · by_cases h2 : k = 2
    · subst h2
      rw [if_neg (by omega), if_pos rfl]
      have HM2 := Lib.hid (fun w => make2_two ⟨fg, bg, b⟩ w)
      show Calls Try.prog 13 #[.int .i32 c, .agg #[.int .i64 fg, .int .i64 bg, .bool (tb b 0), .bool (tb b 1), .bool (tb b 2), .bool (tb b 3), .bool (tb b 4), .bool (tb b 5), .bool (tb b 6), .bool (tb b 7)]] w fun e w' => (∃ v, e = .returned v ∧ w'.ownsRow w.heap.size 36 15 v 2 ((#[.int .i32 c, .int .i32 0, .int .i32 0, .int .i32 0, .int .u8 2, .int .i64 fg, .int .i64 bg, .bool (tb b 0), .bool (tb b 1), .bool (tb b 2), .bool (tb b 3), .bool (tb b 4), .bool (tb b 5), .bool (tb b 6), .bool (tb b 7)] : Array Value).toList ++ (#[.int .i32 0, .int .i32 0, .int .i32 0, .int .i32 0, .int .u8 0, .int .i64 fg, .int .i64 bg, .bool (tb b 0), .bool (tb b 1), .bool (tb b 2), .bool (tb b 3), .bool (tb b 4), .bool (tb b 5), .bool (tb b 6), .bool (tb b 7)] : Array Value).toList)) ∧ Below w.heap.size w w'
      unfold Sty.val Sty.row Cel.row at HM2
      dsimp only at HM2
      generalize tb b 0 = b0 at *
      generalize tb b 1 = b1 at *
      generalize tb b 2 = b2 at *
      generalize tb b 3 = b3 at *
      generalize tb b 4 = b4 at *
      generalize tb b 5 = b5 at *
      generalize tb b 6 = b6 at *
      generalize tb b 7 = b7 at *
      go_enter Try.func13, Try.ntmps13
      go_wp2_with fail
      refine (of_any c _).mono ?_
      rintro e w1 ⟨rfl, hb⟩
      rw [HK.out]
      obtain ⟨S, hS⟩ : ∃ S, w.heap.size = S := ⟨_, rfl⟩
      have hsz := hb.size
      simp only [World.size_alloc, World.size_setCell, size_setRow, hS] at hsz
      have HS1 : Hid (w1.heap[S]? = some (.cells #[.int .i64 fg, .int .i64 bg, .bool b0, .bool b1, .bool b2, .bool b3, .bool b4, .bool b5, .bool b6, .bool b7] 23 (0, 0))) := Lib.hid ((hb.block S (by simp [hS]; omega)).trans (by rw [← hS]; (simp only [heap_setRow_if, heap_alloc_if, heap_setCell_if, World.size_alloc, size_setRow, World.size_setCell]; simp)))
      have HX1 : Hid (w1.heap[S + 1]? = some (.cells #[.int .i32 c, .int .i32 0, .int .i32 0, .int .i32 0, .int .u8 0, .int .i64 fg, .int .i64 bg, .bool b0, .bool b1, .bool b2, .bool b3, .bool b4, .bool b5, .bool b6, .bool b7] 36 (0, 0))) := Lib.hid ((hb.block (S + 1) (by simp [hS])).trans (by rw [← hS]; (simp only [heap_setRow_if, heap_alloc_if, heap_setCell_if, World.size_alloc, size_setRow, World.size_setCell]; simp)))
      have HL1 : Hid (Below S w w1) := Lib.hid (by rw [← hS]; exact bl_then (by (repeat' (first | (with_reducible exact Below.refl _ _) | (with_reducible assumption) | (with_reducible refine Below.alloc ?_ ?_ _) | (with_reducible refine below_setRow ?_ ?_ _) | (with_reducible refine bl_drew ?_) | (with_reducible refine bl_drewN ?_ _) | (with_reducible refine Below.setCell ?_ ?_ _) | (with_reducible refine bl_then ?_ ?_ hb) | (with_reducible refine bl_then ?_ ?_ hb1) | (with_reducible refine bl_then ?_ ?_ hb2) | (with_reducible refine bl_then ?_ ?_ hb3) | (with_reducible refine bl_then ?_ ?_ hb4) | (with_reducible refine bl_then ?_ ?_ hb5) | (with_reducible refine bl_then ?_ ?_ hb6) | (with_reducible refine bl_then ?_ ?_ hb7) | (with_reducible refine bl_then ?_ ?_ hb8) | (with_reducible exact Nat.le_refl _) | omega | (simp only [World.size_alloc, World.size_setCell, World.size_drew, size_setRow]; omega) | (simp; omega) | (simp; done)))) (by simp; omega) hb)
      clear hb
      have c4 : w1.cell? ⟨S + 1, 4, none⟩ = some (.int .u8 0) := (cell_of_row w1 (S + 1) 4 _ _ (0, 0) HX1.out).trans rfl
      have g4 := frozen_of_row w1 (S + 1) 4 _ _ HX1.out
      rw [hS]
      have hwk : IntKind.u8.wrap 2 = 2 := by decide
      go_wp2_with fail
      have HX2 : Hid ((w1.setCell ⟨S + 1, 4, none⟩ (.int .u8 2)).heap[S + 1]? = some (.cells #[.int .i32 c, .int .i32 0, .int .i32 0, .int .i32 0, .int .u8 2, .int .i64 fg, .int .i64 bg, .bool b0, .bool b1, .bool b2, .bool b3, .bool b4, .bool b5, .bool b6, .bool b7] 36 (0, 0))) := Lib.hid ((heap_setCell_same _ _ 4 _ _ _ HX1.out).trans rfl)
      have HS2 : Hid ((w1.setCell ⟨S + 1, 4, none⟩ (.int .u8 2)).heap[S]? = some (.cells #[.int .i64 fg, .int .i64 bg, .bool b0, .bool b1, .bool b2, .bool b3, .bool b4, .bool b5, .bool b6, .bool b7] 23 (0, 0))) := Lib.hid ((heap_setCell_other _ ⟨_, _, _⟩ _ _ (by simp)).trans HS1.out)
      have HL2 : Hid (Below S w (w1.setCell ⟨S + 1, 4, none⟩ (.int .u8 2))) := Lib.hid (HL1.out.setCell (by simp) _)
      generalize w1.setCell ⟨S + 1, 4, none⟩ (.int .u8 2) = W at *
      clear HS1 HX1 HL1 c4 g4
      obtain ⟨it, hit, hz, hs1, hs8⟩ : ∃ i, Try.prog.info? 36 = some i ∧ i.zero = some (.agg #[.int .i32 0, .int .i32 0, .int .i32 0, .int .i32 0, .int .u8 0, .int .i64 0, .int .i64 0, .bool false, .bool false, .bool false, .bool false, .bool false, .bool false, .bool false, .bool false]) ∧ i.size = 15 ∧ i.bytes = 48 := by
        obtain ⟨i, h, h2⟩ := Option.map_eq_some_iff.1 (show (Try.prog.info? 36).map (fun i => (i.zero, i.size, i.bytes)) = some (some (.agg #[.int .i32 0, .int .i32 0, .int .i32 0, .int .i32 0, .int .u8 0, .int .i64 0, .int .i64 0, .bool false, .bool false, .bool false, .bool false, .bool false, .bool false, .bool false, .bool false]), 15, 48) by kernel_rfl)
        simp only [Prod.mk.injEq] at h2
        exact ⟨i, h, h2.1, h2.2.1, h2.2.2⟩
      apply wp_region_eff _ _ (Inv.start0 W fun _ => False) (hm := by kernel_rfl)
      case h =>
        apply SeqF.read (v := .agg #[.int .i32 c, .int .i32 0, .int .i32 0, .int .i32 0, .int .u8 2, .int .i64 fg, .int .i64 bg, .bool b0, .bool b1, .bool b2, .bool b3, .bool b4, .bool b5, .bool b6, .bool b7]) []
        · (first | rfl | (go_simp; done) | (simp [Region.wanted, yielded]; done))
        · exact fun γ' V hg hI => exec_load rfl rfl (run_load_blk celInfo celRow ((hI.far (S + 1) (lt_of_heap HX2.out) id).trans HX2.out))
        go_simp
        apply SeqF.new [] 0 (fun g => .slice (some ⟨g, 0, none⟩) 1 1) (fun _ => .cells #[.int .i32 c, .int .i32 0, .int .i32 0, .int .i32 0, .int .u8 2, .int .i64 fg, .int .i64 bg, .bool b0, .bool b1, .bool b2, .bool b3, .bool b4, .bool b5, .bool b6, .bool b7] 36 (0, 0))
        · intro γ' _; rfl
        · (first | rfl | (go_simp; done) | (simp [Region.wanted, yielded]; done))
        · intro γ' V hg hI; kernel_rfl
        intro X hX
        go_simp
        apply SeqF.read (v := .agg #[.int .i64 fg, .int .i64 bg, .bool b0, .bool b1, .bool b2, .bool b3, .bool b4, .bool b5, .bool b6, .bool b7]) []
        · (first | rfl | (go_simp; done) | (simp [Region.wanted, yielded]; done))
        · exact fun γ' V hg hI => exec_load rfl rfl (run_load_blk styInfo styRow ((hI.far S (lt_of_heap HS2.out) id).trans HS2.out))
        go_simp
        (apply SeqF.pure; (focus (first | rfl | (go_simp; done) | (simp [Region.wanted, yielded]; done))); (focus (intro w; go_simp; with_reducible rfl)); go_simp)
        apply SeqF.callNew [] 1 36 15 1 (#[.int .i32 0, .int .i32 0, .int .i32 0, .int .i32 0, .int .u8 0, .int .i64 fg, .int .i64 bg, .bool b0, .bool b1, .bool b2, .bool b3, .bool b4, .bool b5, .bool b6, .bool b7].toList) 27 #[.agg #[.int .i64 fg, .int .i64 bg, .bool b0, .bool b1, .bool b2, .bool b3, .bool b4, .bool b5, .bool b6, .bool b7], .int .i64 2]
        · (first | rfl | (go_simp; done) | (simp [Region.wanted, yielded]; done))
        · intro w; kernel_rfl
        · exact fun γ' V _ hI => HM2.out V
        intro v x hv hvn
        obtain ⟨g1, c1, cur1, rfl, rfl, h1c, h1m, h1s, h1t⟩ : ∃ g cap cur, v = .slice (some ⟨g, 0, none⟩) 1 cap ∧ x = some (g, .cells cur 36 (0, 0)) ∧ 1 ≤ cap ∧ cap ≤ maxLen ∧ cur.size = cap * 15 ∧ cur.toList.take (1 * 15) = (#[.int .i32 0, .int .i32 0, .int .i32 0, .int .i32 0, .int .u8 0, .int .i64 fg, .int .i64 bg, .bool b0, .bool b1, .bool b2, .bool b3, .bool b4, .bool b5, .bool b6, .bool b7] : Array Value).toList := by
          obtain ⟨_, ⟨_, h, _⟩ | h⟩ := hv
          · cases h
          · exact h
        clear hv hvn
        go_simp
        have q0 : ((gh0.set (some 0) (some (X, .cells #[.int .i32 c, .int .i32 0, .int .i32 0, .int .i32 0, .int .u8 2, .int .i64 fg, .int .i64 bg, .bool b0, .bool b1, .bool b2, .bool b3, .bool b4, .bool b5, .bool b6, .bool b7] 36 (0, 0)))).set (some 1) (some (g1, .cells cur1 36 (0, 0)))) 0 = some (X, .cells #[.int .i32 c, .int .i32 0, .int .i32 0, .int .i32 0, .int .u8 2, .int .i64 fg, .int .i64 bg, .bool b0, .bool b1, .bool b2, .bool b3, .bool b4, .bool b5, .bool b6, .bool b7] 36 (0, 0)) := (Gh.set_far _ _ (by decide)).trans (Gh.set_here _ _ _)
        have q1 : ((gh0.set (some 0) (some (X, .cells #[.int .i32 c, .int .i32 0, .int .i32 0, .int .i32 0, .int .u8 2, .int .i64 fg, .int .i64 bg, .bool b0, .bool b1, .bool b2, .bool b3, .bool b4, .bool b5, .bool b6, .bool b7] 36 (0, 0)))).set (some 1) (some (g1, .cells cur1 36 (0, 0)))) 1 = some (g1, .cells cur1 36 (0, 0)) := Gh.set_here _ _ _
        generalize ((gh0.set (some 0) (some (X, .cells #[.int .i32 c, .int .i32 0, .int .i32 0, .int .i32 0, .int .u8 2, .int .i64 fg, .int .i64 bg, .bool b0, .bool b1, .bool b2, .bool b3, .bool b4, .bool b5, .bool b6, .bool b7] 36 (0, 0)))).set (some 1) (some (g1, .cells cur1 36 (0, 0)))) = γ2 at q0 q1 ⊢
        apply SeqF.append [0, 1] 0 (by simp) (.tmp 20) (.tmp 23) 38 36 it (.agg #[.int .i32 0, .int .i32 0, .int .i32 0, .int .i32 0, .int .u8 0, .int .i64 0, .int .i64 0, .bool false, .bool false, .bool false, .bool false, .bool false, .bool false, .bool false, .bool false]) 15 48 rfl rfl Try.underlying38 hit hz hs1 hs8 rfl (by decide) (.slice (some ⟨X, 0, none⟩) 1 1) 1 (#[.int .i32 c, .int .i32 0, .int .i32 0, .int .i32 0, .int .u8 2, .int .i64 fg, .int .i64 bg, .bool b0, .bool b1, .bool b2, .bool b3, .bool b4, .bool b5, .bool b6, .bool b7] : Array Value).toList rfl (by rw [q0]; exact ⟨rfl, .inr ⟨X, 1, _, rfl, rfl, by omega, by simp [maxLen], rfl, rfl⟩⟩) ⟨g1, 0, none⟩ 1 c1 (#[.int .i32 0, .int .i32 0, .int .i32 0, .int .i32 0, .int .u8 0, .int .i64 fg, .int .i64 bg, .bool b0, .bool b1, .bool b2, .bool b3, .bool b4, .bool b5, .bool b6, .bool b7] : Array Value).toList rfl rfl ?n1 ?n2 ?n3 ?n4 (fun γ => (#[.int .i32 c, .int .i32 0, .int .i32 0, .int .i32 0, .int .u8 2, .int .i64 fg, .int .i64 bg, .bool b0, .bool b1, .bool b2, .bool b3, .bool b4, .bool b5, .bool b6, .bool b7] : Array Value).toList ++ (#[.int .i32 0, .int .i32 0, .int .i32 0, .int .i32 0, .int .u8 0, .int .i64 fg, .int .i64 bg, .bool b0, .bool b1, .bool b2, .bool b3, .bool b4, .bool b5, .bool b6, .bool b7] : Array Value).toList) ?n5 ?n6 ?n7
        case n1 =>
          intro γ' V hg hI
          exact news_take (hI.here 1 g1 _ ((hg 1 (by simp)).trans q1)).1 h1t
        case n2 =>
          intro y hy
          simp only [List.mem_cons, List.not_mem_nil, or_false] at hy
          rcases hy with rfl | rfl | rfl | rfl | rfl | rfl | rfl | rfl | rfl | rfl | rfl | rfl | rfl | rfl | rfl <;> rfl
        case n3 => unfold maxLen; omega
        case n4 => omega
        case n5 => intro γ' hg; rfl
        case n6 => rfl
        case n7 =>
          intro v' x' hu hx'
          obtain rfl := hu.val (by decide)
          go_simp
          apply SeqF.dyn [0] (fun γ => rowVal 15 2 (γ 0))
          · intro γ' hg; simp only [hg 0 (by simp)]
          · (first | rfl | (go_simp; done) | (simp [Region.wanted, yielded]; done))
          · intro γ' V hg hI
            simp only [Gh.set_here]
            go_simp
          simp only [Gh.set_here]
          apply SeqF.done
          intro w9 hI9
          have HO : Hid (w9.ownsRow S 36 15 (rowVal 15 2 x') 2 (#[.int .i32 c, .int .i32 0, .int .i32 0, .int .i32 0, .int .u8 2, .int .i64 fg, .int .i64 bg, .bool b0, .bool b1, .bool b2, .bool b3, .bool b4, .bool b5, .bool b6, .bool b7].toList ++ (#[.int .i32 0, .int .i32 0, .int .i32 0, .int .i32 0, .int .u8 0, .int .i64 fg, .int .i64 bg, .bool b0, .bool b1, .bool b2, .bool b3, .bool b4, .bool b5, .bool b6, .bool b7] : Array Value).toList)) := Lib.hid (hu.owns fun g o hgo => ⟨by
            have hWS : S ≤ W.heap.size := by have := lt_of_heap HS2.out; omega
            rcases hx' g o hgo with ⟨o', h⟩ | h
            · rw [q0] at h
              simp only [Option.some.injEq, Prod.mk.injEq] at h
              omega
            · omega, (hI9.here 0 g o (by rw [Gh.set_here]; exact hgo)).1⟩)
          have HL9 := Lib.hid (hI9.belowS HL2.out (by have := lt_of_heap HS2.out; omega) (by rintro g h; cases h))
          clear hI9 hx' hu
          generalize rowVal 15 2 x' = vr at *
          go_simp
          go_wp2_with fail
          refine bodyPost_ret (v := vr) (by simp [results, Try.results13, go_sem]) rfl ⟨⟨_, rfl, ?_⟩, ?_⟩
          · (try rw [hS]); exact HO.out
          · (try rw [hS]); exact HL9.out
      case hl => rfl
      case ho => kernel_rfl
    · have h1b : (k == 1) = false := by simpa using h1
      have h2b : (k == 2) = false := by simpa using h2
      rw [if_neg h1, if_neg h2]
      unfold Sty.val Sty.row
      dsimp only
      go_enter Try.func13, Try.ntmps13
      go_wp2_with fail
      refine (of_any c _).mono ?_
      rintro e w1 ⟨rfl, hb⟩
      rw [HK.out]
      go_wp2_with fail
      refine bodyPost_ret (v := .slice none 0 0) (by simp [results, Try.results13, go_sem]) rfl ⟨⟨_, rfl, rfl, .inl ⟨rfl, rfl⟩⟩, ?_⟩
      exact bl_then (by (repeat' (first | (with_reducible exact Below.refl _ _) | (with_reducible assumption) | (with_reducible refine Below.alloc ?_ ?_ _) | (with_reducible refine below_setRow ?_ ?_ _) | (with_reducible refine bl_drew ?_) | (with_reducible refine bl_drewN ?_ _) | (with_reducible refine Below.setCell ?_ ?_ _) | (with_reducible refine bl_then ?_ ?_ hb) | (with_reducible refine bl_then ?_ ?_ hb1) | (with_reducible refine bl_then ?_ ?_ hb2) | (with_reducible refine bl_then ?_ ?_ hb3) | (with_reducible refine bl_then ?_ ?_ hb4) | (with_reducible refine bl_then ?_ ?_ hb5) | (with_reducible refine bl_then ?_ ?_ hb6) | (with_reducible refine bl_then ?_ ?_ hb7) | (with_reducible refine bl_then ?_ ?_ hb8) | (with_reducible exact Nat.le_refl _) | omega | (simp only [World.size_alloc, World.size_setCell, World.size_drew, size_setRow]; omega) | (simp; omega) | (simp; done)))) (by simp; omega) hb
end Go.Proofs.Ytlejmllacikmeaa
