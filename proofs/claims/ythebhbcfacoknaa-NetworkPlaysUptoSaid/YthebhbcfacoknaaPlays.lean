/- What is proved: the law NetworkPlays, as a call; conditions: the script reads as it is said to, and what it puts is not too much. -/
import Derived.Test.YthebhbcfacoknaaPlaysA
set_option linter.unusedSimpArgs false
set_option linter.unusedVariables false
namespace Go.Proofs.Ythebhbcfacoknaa
open Go.RowKit
open Go.Maps (Keyed)
set_option maxRecDepth 100000
set_option maxHeartbeats 100000000
theorem plays_law (l : Value) (O : List OpV) (w : World) (h : ROps w l O) (ht : total O ≤ 1048576) :
    Calls Try.prog 4 #[l] w fun e w' => e = .returned (.bool true) ∧ Below w.heap.size w w' := by
  have HL := Lib.hid h
  obtain ⟨A, cap, hv, hK, _⟩ := h
  have hl0 : l = .slice A O.length cap := hv
  subst hl0
  clear hv
  go_enter Try.func4, Try.ntmps4
  go_wp2_with fail
  refine (new_any (fun _ => 0) w).mono ?_
  rintro e w1 ⟨rfl, hn1, hb1, hz1⟩
  obtain ⟨lab, HN1, hlab0⟩ : ∃ lab : Nat → Nat, Hid (Net w1 lab (w.heap.size + 1) ⟨[], [], 0, 0⟩) ∧ ∀ g, g < w.heap.size → lab g = 0 := ⟨_, Lib.hid hn1, fun g hg => by
    show (if g = w.heap.size + 1 then 1 else if g = w.heap.size then 2 else ext (fun _ => 0) w.heap.size g) = 0
    rw [if_neg (by omega), if_neg (by omega)]
    unfold ext
    split <;> rfl⟩
  have HB1 := Lib.hid hb1
  have HLAB := Lib.hid hlab0
  have HZ1 := Lib.hid hz1
  clear hn1 hb1 hlab0 hz1
  generalize hN : w.heap.size + 1 = N at *
  go_wp2_with fail
  have HBo : Hid (Both w N w1.heap.size (fun g => if g = w1.heap.size then 6 else lab g) ⟨[], [], 0, 0⟩ ⟨[], [], 0, 0⟩ (w1.alloc (.cells #[.slice none 0 0, .int .i64 0, .slice none 0 0, .int .i64 0] 43))) := by
    have hz := HZ1.out
    refine ⟨fun g hg => ?_, HN1.out.keep (fun g hg _ _ => ?_) (fun g hg => if_neg (by omega)), ⟨.slice none 0 0, .slice none 0 0, if_pos rfl, heap_alloc_last w1 _, Rows_.nil _ _ _ _, Rows_.nil _ _ _ _⟩, HB1.out.alloc (by omega) _⟩
    · show (if g = w1.heap.size then 6 else lab g) = 0
      rw [if_neg (by omega)]
      exact HLAB.out g hg
    · rw [heap_alloc_if, if_neg (by omega)]
  have hT : w.heap.size < w1.heap.size := by have := HZ1.out; omega
  generalize (fun g => if g = w1.heap.size then 6 else lab g) = lab0 at HBo
  generalize (w1.alloc (.cells #[.slice none 0 0, .int .i64 0, .slice none 0 0, .int .i64 0] 43)) = w2 at HBo ⊢
  generalize w1.heap.size = T at *
  clear HN1 HB1 HLAB HZ1
  go_loopw [5] (fun i wr => ∃ (k : Nat) (lab' : Nat → Nat) (s : NS), k ≤ O.length ∧ i = .int .i64 k ∧ Hid (Both w N T lab' s s wr) ∧ Hid (s.l0.length + s.l1.length ≤ total (O.take k))) (fun i _ => O.length - (intOf i).toNat)
  case atStart => exact ⟨0, lab0, _, Nat.zero_le _, rfl, HBo.out, Nat.zero_le _⟩
  case round =>
    clear HBo
    obtain ⟨k, lab1, s, hk, rfl, HBo, HTO⟩ := hrel
    by_cases hlt : k < O.length
    · obtain ⟨A', cap', e', _, hi⟩ := HL.out
      simp only [Value.slice.injEq] at e'
      obtain ⟨rfl, _, rfl⟩ := e'
      obtain ⟨b, off, u, rfl, q0, q1, q2, q3, hlr, hsd, hca, hnu⟩ := hi k hlt
      have hbl := block_lt_of_cell q0
      have c0 := ((bcell HBo.out.below).1 b _ hbl).trans q0
      have c1 := ((bcell HBo.out.below).1 b _ hbl).trans q1
      have c2 := ((bcell HBo.out.below).1 b _ hbl).trans q2
      have c3 := ((bcell HBo.out.below).1 b _ hbl).trans q3
      obtain ⟨htk, htot⟩ := total_take hlt
      clear hi q0 q1 q2 q3
      generalize O.getD k zOp = o at *
      obtain ⟨ca, sd, m, K⟩ := o
      simp only at c0 c1 c2 c3 hlr hsd hca hnu htk
      have HLR : Hid (LR w (fun _ => 0) u K) := hlr
      obtain ⟨UA, uc, hu, hKl, _⟩ := hlr
      have hu : u = .slice UA K.length uc := hu
      subst hu
      have HTK := Lib.hid htk
      clear htk
      go_wp2_with fail
      have HBo6 := Lib.hid (HBo.out.ext (w1 := wr.alloc (.cells #[.int .u8 ca, .int .u8 sd, .int .i64 m, .slice UA K.length uc] 45)) (by (repeat' (first | (with_reducible exact Below.refl _ _) | (with_reducible assumption) | (with_reducible refine Below.alloc ?_ ?_ _) | (with_reducible refine below_setRow ?_ ?_ _) | (with_reducible refine bl_drew ?_) | (with_reducible refine bl_drewN ?_ _) | (with_reducible refine Below.setCell ?_ ?_ _) | (with_reducible refine bl_then ?_ ?_ hb) | (with_reducible refine bl_then ?_ ?_ hb1) | (with_reducible refine bl_then ?_ ?_ hb2) | (with_reducible refine bl_then ?_ ?_ hb3) | (with_reducible refine bl_then ?_ ?_ hb4) | (with_reducible refine bl_then ?_ ?_ hb5) | (with_reducible refine bl_then ?_ ?_ hb6) | (with_reducible refine bl_then ?_ ?_ hb7) | (with_reducible refine bl_then ?_ ?_ hb8) | (with_reducible exact Nat.le_refl _) | omega | (simp only [World.size_alloc, World.size_setCell, World.size_drew, size_setRow]; omega) | (simp; omega) | (simp; done)))))
      have a0 : (wr.alloc (.cells #[.int .u8 ca, .int .u8 sd, .int .i64 m, .slice UA K.length uc] 45)).heap[wr.heap.size]? = some (.cells #[.int .u8 ca, .int .u8 sd, .int .i64 m, .slice UA K.length uc] 45) := heap_alloc_last wr _
      have hO0 : ext lab1 wr.heap.size wr.heap.size = 0 := ext_new _ (Nat.le_refl _)
      generalize (wr.alloc (.cells #[.int .u8 ca, .int .u8 sd, .int .i64 m, .slice UA K.length uc] 45)) = w6 at HBo6 a0 ⊢
      generalize ext lab1 wr.heap.size = lab6 at HBo6 hO0
      generalize wr.heap.size = Ob at *
      clear HBo c0 c1 c2 c3
      have o0 : w6.cell? ⟨Ob, 0, none⟩ = some (.int .u8 ca) := (cell_of_row w6 Ob 0 _ _ (0, 0) a0).trans rfl
      have o1 : w6.cell? ⟨Ob, 1, none⟩ = some (.int .u8 sd) := (cell_of_row w6 Ob 1 _ _ (0, 0) a0).trans rfl
      have o2 : w6.cell? ⟨Ob, 2, none⟩ = some (.int .i64 m) := (cell_of_row w6 Ob 2 _ _ (0, 0) a0).trans rfl
      have o3 : w6.cell? ⟨Ob, 3, none⟩ = some (.slice UA K.length uc) := (cell_of_row w6 Ob 3 _ _ (0, 0) a0).trans rfl
      have A0 := Lib.hid a0
      clear a0
      rcases (by omega : (¬ sd = 1 ∧ ¬ sd = 2) ∨ (sd = 1 ∨ sd = 2)) with ⟨hs1, hs2⟩ | hs
      · refine (rof_no T sd w6 hs1 hs2).mono ?_
        rintro e w6' ⟨rfl, rfl⟩
        have eh : s.half sd = [] := by simp [NS.half, hs1, hs2]
        have en : s.next sd = 0 := by simp [NS.next, hs1, hs2]
        have et : ∀ n, s.to sd n = s := fun n => by simp [NS.to, hs1, hs2]
        have em : ∀ xs, s.mem sd xs = false := fun xs => by simp [NS.mem, hs1, hs2]
        rcases (by omega : ca = 0 ∨ ca = 1 ∨ ca = 2 ∨ ca = 3 ∨ ca = 4 ∨ (¬ ca = 0 ∧ ¬ ca = 1 ∧ ¬ ca = 2 ∧ ¬ ca = 3 ∧ ¬ ca = 4)) with rfl | rfl | rfl | rfl | rfl | ⟨g0, g1, g2, g3, g4⟩
        · as_aux_lemma =>
          go_wp2_with fail
          refine (put_0 lab6 N s sd _ w6 HBo6.out.net hsd hs1 hs2).mono ?_
          rintro e w7 ⟨rfl, rfl⟩
          go_wp2_with fail
          go_loopw [11] (fun i wq => i = .int .i64 0 ∧ wq = w7) (fun _ _ => 0)
          case atStart => exact ⟨rfl, rfl⟩
          case round =>
            obtain ⟨rfl, rfl⟩ := hrel
            go_wp2_with fail
            all_goals exact ⟨⟨k + 1, lab6, s, by omega, by go_num, HBo6.out, by have h := HTO.out; have h2 := HTK.out; show _ ≤ _; omega⟩, by simp [intOf] <;> omega⟩
        · as_aux_lemma =>
          go_wp2_with fail
          refine (next_any lab6 N s sd w6 HBo6.out.net hsd).mono ?_
          rintro e w7 ⟨h7, hg7⟩
          rw [if_neg (by rw [eh, en]; simp)] at h7
          obtain ⟨rfl, hn7⟩ := h7
          have HBo7 := Lib.hid (HBo6.out.turn (fun g hg => ext_old lab6 hg) hn7 (fr_of_grown HBo6.out hg7))
          clear hn7 hg7
          go_wp2_with fail
          refine wp_region_text (fun W => Below w7.heap.size w7 W ∧ W.heap = w7.heap) (by kernel_rfl) (by kernel_rfl) ⟨bl_drew (Below.refl _ _), rfl⟩ ?_
          (apply SeqL.pure; (focus (first | rfl | (go_simp; done) | (simp [Region.wanted, yielded]; done))); (focus (intro w; go_simp; with_reducible rfl)); go_simp)
          (apply SeqL.pure; (focus (first | rfl | (go_simp; done) | (simp [Region.wanted, yielded]; done))); (focus (intro w; go_simp; with_reducible rfl)); go_simp)
          (apply SeqL.pure; (focus (first | rfl | (go_simp; done) | (simp [Region.wanted, yielded]; done))); (focus (intro w; go_simp; with_reducible rfl)); go_simp)
          (apply SeqL.skip; (focus (first | rfl | (go_simp; done) | (simp [Region.wanted, yielded]; done))); go_simp)
          (apply SeqL.skip; (focus (first | rfl | (go_simp; done) | (simp [Region.wanted, yielded]; done))); go_simp)
          (apply SeqL.skip; (focus (first | rfl | (go_simp; done) | (simp [Region.wanted, yielded]; done))); go_simp)
          (apply SeqL.skip; (focus (first | rfl | (go_simp; done) | (simp [Region.wanted, yielded]; done))); go_simp)
          (apply SeqL.skip; (focus (first | rfl | (go_simp; done) | (simp [Region.wanted, yielded]; done))); go_simp)
          (apply SeqL.skip; (focus (first | rfl | (go_simp; done) | (simp [Region.wanted, yielded]; done))); go_simp)
          (apply SeqL.skip; (focus (first | rfl | (go_simp; done) | (simp [Region.wanted, yielded]; done))); go_simp)
          (apply SeqL.skip; (focus (first | rfl | (go_simp; done) | (simp [Region.wanted, yielded]; done))); go_simp)
          (apply SeqL.skip; (focus (first | rfl | (go_simp; done) | (simp [Region.wanted, yielded]; done))); go_simp)
          (apply SeqL.skip; (focus (first | rfl | (go_simp; done) | (simp [Region.wanted, yielded]; done))); go_simp)
          (apply SeqL.pure; (focus (first | rfl | (go_simp; done) | (simp [Region.wanted, yielded]; done))); (focus (intro w; go_simp; with_reducible rfl)); go_simp)
          refine SeqL.done fun w8 hbb => ?_
          have hhh := hbb.2
          replace hbb := hbb.1
          have HBo8 := Lib.hid (HBo7.out.same hbb)
          clear hbb hhh
          go_wp2_with fail
          go_roundw
          case rel => exact ⟨k + 1, (ext lab6 w6.heap.size), s, by omega, by go_num, HBo8.out, by have h := HTO.out; have h2 := HTK.out; show _ ≤ _; omega⟩
          case measure => simp [intOf] <;> omega
        · as_aux_lemma =>
          go_wp2_with fail
          refine (at_any lab6 N s sd m w6 HBo6.out.net hsd).mono ?_
          rintro e w7 ⟨h7, hb7⟩
          rw [eh, if_neg (by simp <;> omega)] at h7
          subst h7
          have HBo7 := Lib.hid (HBo6.out.same hb7)
          have A7 : w7.heap[Ob]? = some (.cells #[.int .u8 2, .int .u8 sd, .int .i64 m, .slice UA K.length uc] 45) := (hb7.block Ob (lt_of_heap A0.out)).trans A0.out
          have p2 : w7.cell? ⟨Ob, 2, none⟩ = some (.int .i64 m) := (cell_of_row w7 Ob 2 _ _ (0, 0) A7).trans rfl
          clear hb7
          go_wp2_with fail
          refine wp_region_text (fun W => Below w7.heap.size w7 W ∧ W.heap = w7.heap) (by kernel_rfl) (by kernel_rfl) ⟨bl_drew (Below.refl _ _), rfl⟩ ?_
          (apply SeqL.pure; (focus (first | rfl | (go_simp; done) | (simp [Region.wanted, yielded]; done))); (focus (intro w; go_simp; with_reducible rfl)); go_simp)
          (apply SeqL.pure; (focus (first | rfl | (go_simp; done) | (simp [Region.wanted, yielded]; done))); (focus (intro w; go_simp; with_reducible rfl)); go_simp)
          (apply SeqL.skip; (focus (first | rfl | (go_simp; done) | (simp [Region.wanted, yielded]; done))); go_simp)
          (apply SeqL.skip; (focus (first | rfl | (go_simp; done) | (simp [Region.wanted, yielded]; done))); go_simp)
          (apply SeqL.skip; (focus (first | rfl | (go_simp; done) | (simp [Region.wanted, yielded]; done))); go_simp)
          (apply SeqL.pure; (focus (first | rfl | (go_simp; done) | (simp [Region.wanted, yielded]; done))); (focus (intro w; go_simp; with_reducible rfl)); go_simp)
          (apply SeqL.pure; (focus (first | rfl | (go_simp; done) | (simp [Region.wanted, yielded]; done))); (focus (intro w; go_simp; with_reducible rfl)); go_simp)
          (apply SeqL.skip; (focus (first | rfl | (go_simp; done) | (simp [Region.wanted, yielded]; done))); go_simp)
          (apply SeqL.skip; (focus (first | rfl | (go_simp; done) | (simp [Region.wanted, yielded]; done))); go_simp)
          (apply SeqL.skip; (focus (first | rfl | (go_simp; done) | (simp [Region.wanted, yielded]; done))); go_simp)
          (apply SeqL.skip; (focus (first | rfl | (go_simp; done) | (simp [Region.wanted, yielded]; done))); go_simp)
          (apply SeqL.skip; (focus (first | rfl | (go_simp; done) | (simp [Region.wanted, yielded]; done))); go_simp)
          (apply SeqL.skip; (focus (first | rfl | (go_simp; done) | (simp [Region.wanted, yielded]; done))); go_simp)
          (apply SeqL.skip; (focus (first | rfl | (go_simp; done) | (simp [Region.wanted, yielded]; done))); go_simp)
          (apply SeqL.skip; (focus (first | rfl | (go_simp; done) | (simp [Region.wanted, yielded]; done))); go_simp)
          (apply SeqL.pure; (focus (first | rfl | (go_simp; done) | (simp [Region.wanted, yielded]; done))); (focus (intro w; go_simp; with_reducible rfl)); go_simp)
          (apply SeqL.pure; (focus (first | rfl | (go_simp; done) | (simp [Region.wanted, yielded]; done))); (focus (intro w; go_simp; with_reducible rfl)); go_simp)
          refine SeqL.done fun w8 hbb => ?_
          have hhh := hbb.2
          replace hbb := hbb.1
          have HBo8 := Lib.hid (HBo7.out.same hbb)
          clear hbb hhh
          go_wp2_with fail
          refine wp_region_text (fun W => Below w8.heap.size w8 W ∧ W.heap = w8.heap) (by kernel_rfl) (by kernel_rfl) ⟨bl_drew (Below.refl _ _), rfl⟩ ?_
          (apply SeqL.pure; (focus (first | rfl | (go_simp; done) | (simp [Region.wanted, yielded]; done))); (focus (intro w; go_simp; with_reducible rfl)); go_simp)
          (apply SeqL.pure; (focus (first | rfl | (go_simp; done) | (simp [Region.wanted, yielded]; done))); (focus (intro w; go_simp; with_reducible rfl)); go_simp)
          (apply SeqL.pure; (focus (first | rfl | (go_simp; done) | (simp [Region.wanted, yielded]; done))); (focus (intro w; go_simp; with_reducible rfl)); go_simp)
          (apply SeqL.pure; (focus (first | rfl | (go_simp; done) | (simp [Region.wanted, yielded]; done))); (focus (intro w; go_simp; with_reducible rfl)); go_simp)
          (apply SeqL.pure; (focus (first | rfl | (go_simp; done) | (simp [Region.wanted, yielded]; done))); (focus (intro w; go_simp; with_reducible rfl)); go_simp)
          (apply SeqL.pure; (focus (first | rfl | (go_simp; done) | (simp [Region.wanted, yielded]; done))); (focus (intro w; go_simp; with_reducible rfl)); go_simp)
          (apply SeqL.skip; (focus (first | rfl | (go_simp; done) | (simp [Region.wanted, yielded]; done))); go_simp)
          (apply SeqL.skip; (focus (first | rfl | (go_simp; done) | (simp [Region.wanted, yielded]; done))); go_simp)
          (apply SeqL.skip; (focus (first | rfl | (go_simp; done) | (simp [Region.wanted, yielded]; done))); go_simp)
          (apply SeqL.skip; (focus (first | rfl | (go_simp; done) | (simp [Region.wanted, yielded]; done))); go_simp)
          (apply SeqL.skip; (focus (first | rfl | (go_simp; done) | (simp [Region.wanted, yielded]; done))); go_simp)
          (apply SeqL.skip; (focus (first | rfl | (go_simp; done) | (simp [Region.wanted, yielded]; done))); go_simp)
          (apply SeqL.skip; (focus (first | rfl | (go_simp; done) | (simp [Region.wanted, yielded]; done))); go_simp)
          (apply SeqL.skip; (focus (first | rfl | (go_simp; done) | (simp [Region.wanted, yielded]; done))); go_simp)
          (apply SeqL.skip; (focus (first | rfl | (go_simp; done) | (simp [Region.wanted, yielded]; done))); go_simp)
          (apply SeqL.skip; (focus (first | rfl | (go_simp; done) | (simp [Region.wanted, yielded]; done))); go_simp)
          (apply SeqL.skip; (focus (first | rfl | (go_simp; done) | (simp [Region.wanted, yielded]; done))); go_simp)
          (apply SeqL.pure; (focus (first | rfl | (go_simp; done) | (simp [Region.wanted, yielded]; done))); (focus (intro w; go_simp; with_reducible rfl)); go_simp)
          (apply SeqL.pure; (focus (first | rfl | (go_simp; done) | (simp [Region.wanted, yielded]; done))); (focus (intro w; go_simp; with_reducible rfl)); go_simp)
          (apply SeqL.pure; (focus (first | rfl | (go_simp; done) | (simp [Region.wanted, yielded]; done))); (focus (intro w; go_simp; with_reducible rfl)); go_simp)
          (apply SeqL.pure; (focus (first | rfl | (go_simp; done) | (simp [Region.wanted, yielded]; done))); (focus (intro w; go_simp; with_reducible rfl)); go_simp)
          (apply SeqL.pure; (focus (first | rfl | (go_simp; done) | (simp [Region.wanted, yielded]; done))); (focus (intro w; go_simp; with_reducible rfl)); go_simp)
          (apply SeqL.pure; (focus (first | rfl | (go_simp; done) | (simp [Region.wanted, yielded]; done))); (focus (intro w; go_simp; with_reducible rfl)); go_simp)
          (apply SeqL.pure; (focus (first | rfl | (go_simp; done) | (simp [Region.wanted, yielded]; done))); (focus (intro w; go_simp; with_reducible rfl)); go_simp)
          (apply SeqL.pure; (focus (first | rfl | (go_simp; done) | (simp [Region.wanted, yielded]; done))); (focus (intro w; go_simp; with_reducible rfl)); go_simp)
          (apply SeqL.pure; (focus (first | rfl | (go_simp; done) | (simp [Region.wanted, yielded]; done))); (focus (intro w; go_simp; with_reducible rfl)); go_simp)
          (apply SeqL.pure; (focus (first | rfl | (go_simp; done) | (simp [Region.wanted, yielded]; done))); (focus (intro w; go_simp; with_reducible rfl)); go_simp)
          (apply SeqL.pure; (focus (first | rfl | (go_simp; done) | (simp [Region.wanted, yielded]; done))); (focus (intro w; go_simp; with_reducible rfl)); go_simp)
          refine SeqL.done fun w9 hbb => ?_
          have hhh := hbb.2
          replace hbb := hbb.1
          have HBo9 := Lib.hid (HBo8.out.same hbb)
          clear hbb hhh
          go_wp2_with fail
          go_roundw
          case rel => exact ⟨k + 1, lab6, s, by omega, by go_num, HBo9.out, by have h := HTO.out; have h2 := HTK.out; show _ ≤ _; omega⟩
          case measure => simp [intOf] <;> omega
        · as_aux_lemma =>
          go_wp2_with fail
          refine (lose_any lab6 N s sd m hnu w6 HBo6.out.net hsd).mono ?_
          rintro e w7 ⟨rfl, hn7, hg7, hz7⟩
          have e7 : max (0 : Int) (min m (((s.half sd).length : Int) - ((s.next sd : Nat) : Int))) = 0 := by rw [eh, en]; show max (0 : Int) (min m (0 - 0)) = 0; omega
          rw [et] at hn7
          rw [e7]
          have HBo7 := Lib.hid (HBo6.out.turn (fun _ _ => rfl) hn7 (fr_of_grown HBo6.out hg7))
          clear hn7 hg7 hz7
          go_wp2_with fail
          go_roundw
          case rel => exact ⟨k + 1, lab6, s, by omega, by go_num, HBo7.out, by have h := HTO.out; have h2 := HTK.out; show _ ≤ _; omega⟩
          case measure => simp [intOf] <;> omega
        · as_aux_lemma =>
          go_wp2_with fail
          refine (counts_any lab6 N s sd w6 HBo6.out.net hsd).mono ?_
          rintro e w7 ⟨rfl, hb7, hh7⟩
          have e7 : ((s.half sd).length : Int) = 0 := by rw [eh]; rfl
          have e8 : ((s.half sd).length : Int) - ((s.next sd : Nat) : Int) = 0 := by rw [eh, en]; rfl
          rw [e8, e7]
          have HBo7 := Lib.hid (HBo6.out.same hb7)
          have A7 : Hid (w7.heap[Ob]? = some (.cells #[.int .u8 4, .int .u8 sd, .int .i64 m, .slice UA K.length uc] 45)) := (hb7.block Ob (lt_of_heap A0.out)).trans A0.out
          clear hb7 hh7
          go_wp2_with fail
          refine wp_region_text (fun W => Below w7.heap.size w7 W ∧ W.heap = w7.heap) (by kernel_rfl) (by kernel_rfl) ⟨bl_drew (Below.refl _ _), rfl⟩ ?_
          (apply SeqL.pure; (focus (first | rfl | (go_simp; done) | (simp [Region.wanted, yielded]; done))); (focus (intro w; go_simp; with_reducible rfl)); go_simp)
          (apply SeqL.pure; (focus (first | rfl | (go_simp; done) | (simp [Region.wanted, yielded]; done))); (focus (intro w; go_simp; with_reducible rfl)); go_simp)
          (apply SeqL.skip; (focus (first | rfl | (go_simp; done) | (simp [Region.wanted, yielded]; done))); go_simp)
          (apply SeqL.skip; (focus (first | rfl | (go_simp; done) | (simp [Region.wanted, yielded]; done))); go_simp)
          (apply SeqL.skip; (focus (first | rfl | (go_simp; done) | (simp [Region.wanted, yielded]; done))); go_simp)
          (apply SeqL.skip; (focus (first | rfl | (go_simp; done) | (simp [Region.wanted, yielded]; done))); go_simp)
          (apply SeqL.skip; (focus (first | rfl | (go_simp; done) | (simp [Region.wanted, yielded]; done))); go_simp)
          (apply SeqL.skip; (focus (first | rfl | (go_simp; done) | (simp [Region.wanted, yielded]; done))); go_simp)
          (apply SeqL.skip; (focus (first | rfl | (go_simp; done) | (simp [Region.wanted, yielded]; done))); go_simp)
          (apply SeqL.skip; (focus (first | rfl | (go_simp; done) | (simp [Region.wanted, yielded]; done))); go_simp)
          (apply SeqL.skip; (focus (first | rfl | (go_simp; done) | (simp [Region.wanted, yielded]; done))); go_simp)
          (apply SeqL.skip; (focus (first | rfl | (go_simp; done) | (simp [Region.wanted, yielded]; done))); go_simp)
          (apply SeqL.skip; (focus (first | rfl | (go_simp; done) | (simp [Region.wanted, yielded]; done))); go_simp)
          (apply SeqL.skip; (focus (first | rfl | (go_simp; done) | (simp [Region.wanted, yielded]; done))); go_simp)
          (apply SeqL.skip; (focus (first | rfl | (go_simp; done) | (simp [Region.wanted, yielded]; done))); go_simp)
          (apply SeqL.skip; (focus (first | rfl | (go_simp; done) | (simp [Region.wanted, yielded]; done))); go_simp)
          (apply SeqL.skip; (focus (first | rfl | (go_simp; done) | (simp [Region.wanted, yielded]; done))); go_simp)
          (apply SeqL.skip; (focus (first | rfl | (go_simp; done) | (simp [Region.wanted, yielded]; done))); go_simp)
          (apply SeqL.skip; (focus (first | rfl | (go_simp; done) | (simp [Region.wanted, yielded]; done))); go_simp)
          (apply SeqL.skip; (focus (first | rfl | (go_simp; done) | (simp [Region.wanted, yielded]; done))); go_simp)
          (apply SeqL.skip; (focus (first | rfl | (go_simp; done) | (simp [Region.wanted, yielded]; done))); go_simp)
          (apply SeqL.skip; (focus (first | rfl | (go_simp; done) | (simp [Region.wanted, yielded]; done))); go_simp)
          (apply SeqL.skip; (focus (first | rfl | (go_simp; done) | (simp [Region.wanted, yielded]; done))); go_simp)
          (apply SeqL.pure; (focus (first | rfl | (go_simp; done) | (simp [Region.wanted, yielded]; done))); (focus (intro w; go_simp; with_reducible rfl)); go_simp)
          (apply SeqL.pure; (focus (first | rfl | (go_simp; done) | (simp [Region.wanted, yielded]; done))); (focus (intro w; go_simp; with_reducible rfl)); go_simp)
          (apply SeqL.pure; (focus (first | rfl | (go_simp; done) | (simp [Region.wanted, yielded]; done))); (focus (intro w; go_simp; with_reducible rfl)); go_simp)
          (apply SeqL.pure; (focus (first | rfl | (go_simp; done) | (simp [Region.wanted, yielded]; done))); (focus (intro w; go_simp; with_reducible rfl)); go_simp)
          (apply SeqL.pure; (focus (first | rfl | (go_simp; done) | (simp [Region.wanted, yielded]; done))); (focus (intro w; go_simp; with_reducible rfl)); go_simp)
          (apply SeqL.pure; (focus (first | rfl | (go_simp; done) | (simp [Region.wanted, yielded]; done))); (focus (intro w; go_simp; with_reducible rfl)); go_simp)
          (apply SeqL.pure; (focus (first | rfl | (go_simp; done) | (simp [Region.wanted, yielded]; done))); (focus (intro w; go_simp; with_reducible rfl)); go_simp)
          (apply SeqL.pure; (focus (first | rfl | (go_simp; done) | (simp [Region.wanted, yielded]; done))); (focus (intro w; go_simp; with_reducible rfl)); go_simp)
          (apply SeqL.pure; (focus (first | rfl | (go_simp; done) | (simp [Region.wanted, yielded]; done))); (focus (intro w; go_simp; with_reducible rfl)); go_simp)
          (apply SeqL.pure; (focus (first | rfl | (go_simp; done) | (simp [Region.wanted, yielded]; done))); (focus (intro w; go_simp; with_reducible rfl)); go_simp)
          (apply SeqL.pure; (focus (first | rfl | (go_simp; done) | (simp [Region.wanted, yielded]; done))); (focus (intro w; go_simp; with_reducible rfl)); go_simp)
          refine SeqL.done fun w8 hbb => ?_
          have hhh := hbb.2
          replace hbb := hbb.1
          have HBo8 := Lib.hid (HBo7.out.same hbb)
          have A8 : w8.heap[Ob]? = some (.cells #[.int .u8 4, .int .u8 sd, .int .i64 m, .slice UA K.length uc] 45) := by rw [hhh]; exact A7.out
          have p1 : w8.cell? ⟨Ob, 1, none⟩ = some (.int .u8 sd) := (cell_of_row w8 Ob 1 _ _ (0, 0) A8).trans rfl
          have p3 : w8.cell? ⟨Ob, 3, none⟩ = some (.slice UA K.length uc) := (cell_of_row w8 Ob 3 _ _ (0, 0) A8).trans rfl
          clear hbb hhh o0 o1 o2 o3 A8
          go_wp2_with fail
          rcases K with _ | ⟨x0, K1⟩
          · simp only [List.length_nil] at p3
            refine wp_region_text (fun W => Below w8.heap.size w8 W ∧ W.heap = w8.heap) (by kernel_rfl) (by kernel_rfl) ⟨bl_drew (Below.refl _ _), rfl⟩ ?_
            (apply SeqL.pure; (focus (first | rfl | (go_simp; done) | (simp [Region.wanted, yielded]; done))); (focus (intro w; go_simp; with_reducible rfl)); go_simp)
            (apply SeqL.read; (focus (first | rfl | (go_simp; done) | (simp [Region.wanted, yielded]; done))); (focus (intro W hF; have x0 := (cell_heap hF.2 _).trans p3; go_simp; with_reducible rfl)); go_simp)
            (apply SeqL.pure; (focus (first | rfl | (go_simp; done) | (simp [Region.wanted, yielded]; done))); (focus (intro w; go_simp; with_reducible rfl)); go_simp)
            (apply SeqL.pure; (focus (first | rfl | (go_simp; done) | (simp [Region.wanted, yielded]; done))); (focus (intro w; go_simp; with_reducible rfl)); go_simp)
            (apply SeqL.pure; (focus (first | rfl | (go_simp; done) | (simp [Region.wanted, yielded]; done))); (focus (intro w; go_simp; with_reducible rfl)); go_simp)
            (apply SeqL.skip; (focus (first | rfl | (go_simp; done) | (simp [Region.wanted, yielded]; done))); go_simp)
            (apply SeqL.skip; (focus (first | rfl | (go_simp; done) | (simp [Region.wanted, yielded]; done))); go_simp)
            (apply SeqL.skip; (focus (first | rfl | (go_simp; done) | (simp [Region.wanted, yielded]; done))); go_simp)
            (apply SeqL.skip; (focus (first | rfl | (go_simp; done) | (simp [Region.wanted, yielded]; done))); go_simp)
            (apply SeqL.skip; (focus (first | rfl | (go_simp; done) | (simp [Region.wanted, yielded]; done))); go_simp)
            (apply SeqL.skip; (focus (first | rfl | (go_simp; done) | (simp [Region.wanted, yielded]; done))); go_simp)
            (apply SeqL.skip; (focus (first | rfl | (go_simp; done) | (simp [Region.wanted, yielded]; done))); go_simp)
            (apply SeqL.skip; (focus (first | rfl | (go_simp; done) | (simp [Region.wanted, yielded]; done))); go_simp)
            (apply SeqL.skip; (focus (first | rfl | (go_simp; done) | (simp [Region.wanted, yielded]; done))); go_simp)
            (apply SeqL.skip; (focus (first | rfl | (go_simp; done) | (simp [Region.wanted, yielded]; done))); go_simp)
            (apply SeqL.skip; (focus (first | rfl | (go_simp; done) | (simp [Region.wanted, yielded]; done))); go_simp)
            (apply SeqL.skip; (focus (first | rfl | (go_simp; done) | (simp [Region.wanted, yielded]; done))); go_simp)
            (apply SeqL.skip; (focus (first | rfl | (go_simp; done) | (simp [Region.wanted, yielded]; done))); go_simp)
            (apply SeqL.skip; (focus (first | rfl | (go_simp; done) | (simp [Region.wanted, yielded]; done))); go_simp)
            (apply SeqL.skip; (focus (first | rfl | (go_simp; done) | (simp [Region.wanted, yielded]; done))); go_simp)
            (apply SeqL.skip; (focus (first | rfl | (go_simp; done) | (simp [Region.wanted, yielded]; done))); go_simp)
            (apply SeqL.pure; (focus (first | rfl | (go_simp; done) | (simp [Region.wanted, yielded]; done))); (focus (intro w; go_simp; with_reducible rfl)); go_simp)
            refine SeqL.done fun w9 hbb => ?_
            have hhh := hbb.2
            replace hbb := hbb.1
            have HBo9 := Lib.hid (HBo8.out.same hbb)
            clear hbb hhh
            go_wp2_with fail
            go_roundw
            case rel => exact ⟨k + 1, lab6, s, by omega, by go_num, HBo9.out, by have h := HTO.out; have h2 := HTK.out; show _ ≤ _; omega⟩
            case measure => simp [intOf] <;> omega
          · obtain ⟨A4, c4, e4, _, h4⟩ := HLR.out
            simp only [Value.slice.injEq] at e4
            obtain ⟨rfl, _, _⟩ := e4
            obtain ⟨b4, of4, u4, rfl, _, q4, B4, _⟩ := h4 0 (by simp)
            have hbl4 := block_lt_of_cell q4
            have p4 := ((bcell HBo8.out.below).1 b4 _ hbl4).trans q4
            rw [Nat.add_zero] at p4
            have BW := B4.below HBo8.out.below
            have B8 := Lib.hid BW
            clear q4 BW B4
            simp only [List.length_cons] at p3
            refine wp_region_text (fun W => Below w8.heap.size w8 W ∧ W.heap = w8.heap) (by kernel_rfl) (by kernel_rfl) ⟨bl_drew (Below.refl _ _), rfl⟩ ?_
            (apply SeqL.pure; (focus (first | rfl | (go_simp; done) | (simp [Region.wanted, yielded]; done))); (focus (intro w; go_simp; with_reducible rfl)); go_simp)
            (apply SeqL.read; (focus (first | rfl | (go_simp; done) | (simp [Region.wanted, yielded]; done))); (focus (intro W hF; have x0 := (cell_heap hF.2 _).trans p3; go_simp; with_reducible rfl)); go_simp)
            (apply SeqL.pure; (focus (first | rfl | (go_simp; done) | (simp [Region.wanted, yielded]; done))); (focus (intro w; go_simp; with_reducible rfl)); go_simp)
            (apply SeqL.pure; (focus (first | rfl | (go_simp; done) | (simp [Region.wanted, yielded]; done))); (focus (intro w; go_simp; with_reducible rfl)); go_simp)
            (apply SeqL.pure; (focus (first | rfl | (go_simp; done) | (simp [Region.wanted, yielded]; done))); (focus (intro w; go_simp; with_reducible rfl)); go_simp)
            (apply SeqL.pure; (focus (first | rfl | (go_simp; done) | (simp [Region.wanted, yielded]; done))); (focus (intro w; go_simp; with_reducible rfl)); go_simp)
            (apply SeqL.pure; (focus (first | rfl | (go_simp; done) | (simp [Region.wanted, yielded]; done))); (focus (intro w; go_simp; with_reducible rfl)); go_simp)
            (apply SeqL.read; (focus (first | rfl | (go_simp; done) | (simp [Region.wanted, yielded]; done))); (focus (intro W hF; have x0 := (cell_heap hF.2 _).trans p1; go_simp; with_reducible rfl)); go_simp)
            (apply SeqL.pure; (focus (first | rfl | (go_simp; done) | (simp [Region.wanted, yielded]; done))); (focus (intro w; go_simp; with_reducible rfl)); go_simp)
            (apply SeqL.read; (focus (first | rfl | (go_simp; done) | (simp [Region.wanted, yielded]; done))); (focus (intro W hF; have x0 := (cell_heap hF.2 _).trans p3; go_simp; with_reducible rfl)); go_simp)
            (apply SeqL.pure; (focus (first | rfl | (go_simp; done) | (simp [Region.wanted, yielded]; done))); (focus (intro w; go_simp; with_reducible rfl)); go_simp)
            (apply SeqL.read; (focus (first | rfl | (go_simp; done) | (simp [Region.wanted, yielded]; done))); (focus (intro W hF; have x0 := (cell_heap hF.2 _).trans p4; go_simp; with_reducible rfl)); go_simp)
            refine SeqL.call (.bool false) 13 #[.pointer (some ⟨N, 0, none⟩), .int .u8 sd, u4] ?_ (fun w => by kernel_rfl) (fun W hW => (genuine_any (lab6) N s sd u4 _ W (HBo8.out.net.keep (fun g _ _ _ => by rw [hW.2]) (fun _ _ => rfl)) hsd (B8.out.keep fun _ _ _ _ => by rw [hW.2])).mono fun e w' h => ⟨by rw [h.1, em], bl_then hW.1 hW.1.size h.2.1, by rw [h.2.2, hW.2]⟩) ?_
            · (first | rfl | (go_simp; done) | (simp [Region.wanted, yielded]; done))
            go_simp
            (apply SeqL.pure; (focus (first | rfl | (go_simp; done) | (simp [Region.wanted, yielded]; done))); (focus (intro w; go_simp; with_reducible rfl)); go_simp)
            (apply SeqL.read; (focus (first | rfl | (go_simp; done) | (simp [Region.wanted, yielded]; done))); (focus (intro W hF; have x0 := (cell_heap hF.2 _).trans p1; go_simp; with_reducible rfl)); go_simp)
            (apply SeqL.pure; (focus (first | rfl | (go_simp; done) | (simp [Region.wanted, yielded]; done))); (focus (intro w; go_simp; with_reducible rfl)); go_simp)
            (apply SeqL.read; (focus (first | rfl | (go_simp; done) | (simp [Region.wanted, yielded]; done))); (focus (intro W hF; have x0 := (cell_heap hF.2 _).trans p3; go_simp; with_reducible rfl)); go_simp)
            (apply SeqL.pure; (focus (first | rfl | (go_simp; done) | (simp [Region.wanted, yielded]; done))); (focus (intro w; go_simp; with_reducible rfl)); go_simp)
            (apply SeqL.read; (focus (first | rfl | (go_simp; done) | (simp [Region.wanted, yielded]; done))); (focus (intro W hF; have x0 := (cell_heap hF.2 _).trans p4; go_simp; with_reducible rfl)); go_simp)
            refine SeqL.call (.bool false) 18 #[.pointer (some ⟨T, 0, none⟩), .int .u8 sd, u4] ?_ (fun w => by kernel_rfl) (fun W hW => (rgenuine_no T sd u4 W hs1 hs2).mono fun e w' h => ⟨h.1, by rw [← h.2]; exact hW⟩) ?_
            · (first | rfl | (go_simp; done) | (simp [Region.wanted, yielded]; done))
            go_simp
            (apply SeqL.pure; (focus (first | rfl | (go_simp; done) | (simp [Region.wanted, yielded]; done))); (focus (intro w; go_simp; with_reducible rfl)); go_simp)
            (apply SeqL.pure; (focus (first | rfl | (go_simp; done) | (simp [Region.wanted, yielded]; done))); (focus (intro w; go_simp; with_reducible rfl)); go_simp)
            refine SeqL.done fun w9 hbb => ?_
            have hhh := hbb.2
            replace hbb := hbb.1
            have HBo9 := Lib.hid (HBo8.out.same hbb)
            clear hbb hhh
            go_wp2_with fail
            go_roundw
            case rel => exact ⟨k + 1, lab6, s, by omega, by go_num, HBo9.out, by have h := HTO.out; have h2 := HTK.out; show _ ≤ _; omega⟩
            case measure => simp [intOf] <;> omega
        · as_aux_lemma =>
          go_wp2_with fail
          go_roundw
          case rel => exact ⟨k + 1, lab6, s, by omega, by go_num, HBo6.out, by have h := HTO.out; have h2 := HTK.out; show _ ≤ _; omega⟩
          case measure => simp [intOf] <;> omega
      · refine (rof_any T sd w6 hs).mono ?_
        rintro e w6' ⟨rfl, rfl⟩
        have HS := Lib.hid hs
        clear hs
        have hoff : (offOf sd : Nat) = offOf sd := rfl
        obtain ⟨off, hofs⟩ : ∃ off, offOf sd = off := ⟨_, rfl⟩
        rw [hofs]
        have HOF := Lib.hid hofs
        clear hofs hoff
        rcases (by omega : ca = 0 ∨ ca = 1 ∨ ca = 2 ∨ ca = 3 ∨ ca = 4 ∨ (¬ ca = 0 ∧ ¬ ca = 1 ∧ ¬ ca = 2 ∧ ¬ ca = 3 ∧ ¬ ca = 4)) with rfl | rfl | rfl | rfl | rfl | ⟨g0, g1, g2, g3, g4⟩
        · as_aux_lemma =>
          have hLR6 : LR w6 lab6 (.slice UA K.length uc) K := HLR.out.keep (fun g hg _ => HBo6.out.below.block g hg) (fun g hg => HBo6.out.zero g hg)
          have hbound : (s.l0.length + s.l1.length + K.length) * 24 ≤ 140737488355328 := by have h := HTO.out; have h2 := HTK.out; omega
          go_wp2_with fail
          refine (put_any lab6 N s sd _ K w6 HBo6.out.net HS.out hLR6 hbound).mono ?_
          rintro e w7 ⟨rfl, lab7, hl7, hn7, hf7⟩
          have HBo7 := Lib.hid (HBo6.out.turn hl7 hn7 hf7)
          have HA7 : Hid (w7.heap[Ob]? = some (.cells #[.int .u8 0, .int .u8 sd, .int .i64 m, .slice UA K.length uc] 45)) := (hf7.block Ob (lt_of_heap A0.out) (.inl hO0)).trans A0.out
          have HO7 : Hid (lab7 Ob = 0) := (hl7 Ob (lt_of_heap A0.out)).trans hO0
          clear hl7 hn7 hf7 hLR6 HBo6 A0 o0 o1 o2 o3 hO0
          go_wp2_with fail
          go_loopw [11] (fun i wq => ∃ (j : Nat) (labq : Nat → Nat), j ≤ K.length ∧ i = .int .i64 j ∧ Hid (Both w N T labq (s.add sd K) (s.add sd (K.take j)) wq) ∧ Hid (wq.heap[Ob]? = some (.cells #[.int .u8 0, .int .u8 sd, .int .i64 m, .slice UA K.length uc] 45)) ∧ Hid (labq Ob = 0)) (fun i _ => K.length - (intOf i).toNat)
          case atStart => exact ⟨0, lab7, Nat.zero_le _, rfl, by rw [List.take_zero, (ns_half s HS.out [] 0).2.2.2.2.1]; exact HBo7.out, HA7.out, HO7.out⟩
          case round =>
            clear HBo7 HA7 HO7
            obtain ⟨j, labq, hj, rfl, HQ, AQ, HOQ⟩ := hrel
            have p3 : wr.cell? ⟨Ob, 3, none⟩ = some (.slice UA K.length uc) := (cell_of_row wr Ob 3 _ _ (0, 0) AQ.out).trans rfl
            by_cases hjl : j < K.length
            · go_wp2_with fail
              rcases HS.out with rfl | rfl
              · obtain rfl : off = 0 := by have := HOF.out; exact this.symm
                have HQ1 : Hid (Both w N T labq { s with l0 := s.l0 ++ K } { s with l0 := s.l0 ++ K.take j } wr) := HQ
                obtain ⟨v0, v1, l6, hT, h4, h5⟩ := HQ1.out.ref
                simp only at hT h4 h5
                have HTQ := Lib.hid hT
                have hkeep := HQ1.out
                have fr : wr.frozen? ⟨T, 0, none⟩ = false := frozen_of_row wr T 0 _ _ hT
                have hTl : T < wr.heap.size := (Array.getElem?_eq_some_iff.1 hT).1
                obtain ⟨vs, hvs, hown, hlb, hinn⟩ := h4
                obtain ⟨x0, hx0, hx1⟩ := OwX.of hown
                obtain ⟨it, hit, hz, hs1, hs8⟩ : ∃ i, Try.prog.info? 25 = some i ∧ i.zero = some (.slice none 0 0) ∧ i.size = 1 ∧ i.bytes = 24 := by
                  obtain ⟨i, h, h2⟩ := Option.map_eq_some_iff.1 (show (Try.prog.info? 25).map (fun i => (i.zero, i.size, i.bytes)) = some (some (.slice none 0 0), 1, 24) by kernel_rfl)
                  simp only [Prod.mk.injEq] at h2
                  exact ⟨i, h, h2⟩
                have HX0 := Lib.hid hx0
                have hKk : (s.l0 ++ K.take j).length = s.l0.length + j := by simp; omega
                have hlN : ∀ g ob, x0 = some (g, ob) → g ≠ T := fun g ob hg e => by
                  have := hlb g (hx1 g ob hg).2.2
                  rw [e, l6] at this
                  omega
                have hOS : ¬ (Ob = T ∨ v0.ownBlock = some Ob) := by
                  have h0 := HOQ.out
                  rintro (e | e)
                  · rw [e, l6] at h0; omega
                  · have := hlb Ob e; omega
                have hOl : Ob < wr.heap.size := lt_of_heap AQ.out
                have HI0 := Lib.hid (Inv.start2 (S := fun g => g = T ∨ v0.ownBlock = some g) hT (.inl rfl) (fun g ob hg => ⟨(hx1 g ob hg).2.1, hlN g ob hg, .inr (hx1 g ob hg).2.2⟩))
                clear hx0 hx1 hT
                have g00 := gh2_0 (some (T, .cells #[v0, .int .i64 s.n0, v1, .int .i64 s.n1] 43 (0, 0))) x0
                have g01 := gh2_1 (some (T, .cells #[v0, .int .i64 s.n0, v1, .int .i64 s.n1] 43 (0, 0))) x0
                generalize gh2 (some (T, .cells #[v0, .int .i64 s.n0, v1, .int .i64 s.n1] 43 (0, 0))) x0 = γ0 at HI0 g00 g01
                -- the bytes that are put
                obtain ⟨A5, c5, e5, _, h5r⟩ := HLR.out
                simp only [Value.slice.injEq] at e5
                obtain ⟨rfl, _, rfl⟩ := e5
                obtain ⟨b5, of5, u, rfl, _, q5, B5, _⟩ := h5r j hjl
                have hbl5 : b5 < w.heap.size := block_lt_of_cell q5
                have hbl0 := HQ1.out.zero b5 hbl5
                have hb5w : b5 < wr.heap.size := by have := HQ1.out.below.size; omega
                have C5 := Lib.hid (((bcell HQ1.out.below).1 b5 _ hbl5).trans q5)
                obtain ⟨xs, hxs⟩ : ∃ xs, K.getD j [] = xs := ⟨_, rfl⟩
                rw [hxs] at B5
                have HXS := Lib.hid hxs
                clear hxs
                have HB5 := Lib.hid B5
                have far : ∀ W γ' q, q < w.heap.size → Inv wr (fun g => g = T ∨ v0.ownBlock = some g) γ' W → W.heap[q]? = w.heap[q]? := fun W γ' q hq hI => by
                  have hz := HQ1.out.zero q hq
                  have hzq := HQ1.out.below.size
                  refine (hI.far q (by omega) fun hs => ?_).trans (HQ1.out.below.block q hq)
                  rcases hs with e | e
                  · rw [e, l6] at hz; omega
                  · have := hlb q e; omega
                have HBF : Hid (∀ W γ', Inv wr (fun g => g = T ∨ v0.ownBlock = some g) γ' W → BB W u xs) := fun W γ' hI => HB5.out.keep fun q _ _ hlt => far W γ' q hlt hI
                have HCF : Hid (∀ W γ', Inv wr (fun g => g = T ∨ v0.ownBlock = some g) γ' W → W.cell? ⟨b5, of5 + j, none⟩ = some u) := fun W γ' hI => (World.cell?_of_block (far W γ' b5 hbl5 hI)).trans q5
                have HOF3 : Hid (∀ W γ', Inv wr (fun g => g = T ∨ v0.ownBlock = some g) γ' W → W.cell? ⟨Ob, 3, none⟩ = some (.slice (some ⟨b5, of5, none⟩) K.length uc)) := fun W γ' hI => (World.cell?_of_block (hI.far Ob hOl hOS)).trans ((cell_of_row wr Ob 3 _ _ (0, 0) AQ.out).trans rfl)
                clear q5 B5 far h5r
                have hj0 : (j : Int) < (K.length : Int) := by omega
                go_wp2_with fail
                apply wp_region_eff (Inv wr (fun g => g = T ∨ v0.ownBlock = some g)) γ0 HI0.out (hm := by kernel_rfl)
                case h =>
                  (apply SeqF.pure; (focus (first | rfl | (go_simp; done) | (simp [Region.wanted, yielded]; done))); (focus (intro w; go_simp; with_reducible rfl)); go_simp)
                  (apply SeqF.pure; (focus (first | rfl | (go_simp; done) | (simp [Region.wanted, yielded]; done))); (focus (intro w; go_simp; with_reducible rfl)); go_simp)
                  (apply SeqF.pure; (focus (first | rfl | (go_simp; done) | (simp [Region.wanted, yielded]; done))); (focus (intro w; go_simp; with_reducible rfl)); go_simp)
                  (apply SeqF.pure; (focus (first | rfl | (go_simp; done) | (simp [Region.wanted, yielded]; done))); (focus (intro w; go_simp; with_reducible rfl)); go_simp)
                  (apply SeqF.read [0]; (focus (first | rfl | (go_simp; done) | (simp [Region.wanted, yielded]; done))); (focus (intro γ' W hg hI; have x0 : W.cell? ⟨T, 0, none⟩ = some v0 := (cell_of_row W T 0 _ _ (0, 0) (hI.here 0 T _ ((hg 0 (by simp)).trans g00)).1).trans rfl; go_simp; with_reducible rfl)); go_simp)
                  (apply SeqF.pure; (focus (first | rfl | (go_simp; done) | (simp [Region.wanted, yielded]; done))); (focus (intro w; go_simp; with_reducible rfl)); go_simp)
                  (apply SeqF.read []; (focus (first | rfl | (go_simp; done) | (simp [Region.wanted, yielded]; done))); (focus (intro γ' W hg hI; have x0 := HOF3.out W γ' hI; go_simp; with_reducible rfl)); go_simp)
                  (apply SeqF.pure; (focus (first | rfl | (go_simp; done) | (simp [Region.wanted, yielded]; done))); (focus (intro w; go_simp; with_reducible rfl)); go_simp)
                  (apply SeqF.pure; (focus (first | rfl | (go_simp; done) | (simp [Region.wanted, yielded]; done))); (focus (intro w; go_simp; with_reducible rfl)); go_simp)
                  (apply SeqF.read []; (focus (first | rfl | (go_simp; done) | (simp [Region.wanted, yielded]; done))); (focus (intro γ' W hg hI; have x0 := HCF.out W γ' hI; go_simp; with_reducible rfl)); go_simp)
                  apply SeqF.callNew [] 2 5 1 xs.length (xs.map (Value.int .u8)) 7 #[u]
                  · (first | rfl | (go_simp; done) | (simp [Region.wanted, yielded]; done))
                  · intro w; kernel_rfl
                  · exact fun γ' W _ hI => copy_bytes u _ W (HBF.out W γ' hI)
                  intro v x hv hvn
                  obtain rfl := hv.val (by decide)
                  obtain ⟨A2, c2, hA2⟩ := hv.form
                  have HV := Lib.hid hv
                  clear hv
                  go_simp
                  apply SeqF.new [2] 3 (fun g => .slice (some ⟨g, 0, none⟩) 1 1) (fun γ => .cells #[rowVal 1 xs.length (γ 2)] 25)
                  · intro γ' hg; simp only [hg 2 (by simp)]
                  · (first | rfl | (go_simp; done) | (simp [Region.wanted, yielded]; done))
                  · intro γ' W hg hI
                    simp only [Gh.set_here]
                    rw [hA2]
                    go_simp
                  intro g3 hg3
                  have g32 : (γ0.set (some 2) x) 2 = x := Gh.set_here _ _ _
                  simp only [g32]
                  go_simp
                  have q3 : ((γ0.set (some 2) x).set (some 3) (some (g3, .cells #[.slice A2 xs.length c2] 25))) 3 = some (g3, .cells #[.slice A2 xs.length c2] 25) := Gh.set_here _ _ _
                  have q2 : ((γ0.set (some 2) x).set (some 3) (some (g3, .cells #[.slice A2 xs.length c2] 25))) 2 = x := (Gh.set_far _ _ (by decide)).trans (Gh.set_here _ _ _)
                  have q1 : ((γ0.set (some 2) x).set (some 3) (some (g3, .cells #[.slice A2 xs.length c2] 25))) 1 = x0 := ((Gh.set_far _ _ (by decide)).trans (Gh.set_far _ _ (by decide))).trans g01
                  have q0 : ((γ0.set (some 2) x).set (some 3) (some (g3, .cells #[.slice A2 xs.length c2] 25))) 0 = γ0 0 := (Gh.set_far _ _ (by decide)).trans (Gh.set_far _ _ (by decide))
                  generalize ((γ0.set (some 2) x).set (some 3) (some (g3, .cells #[.slice A2 xs.length c2] 25))) = γ3 at q0 q1 q2 q3 ⊢
                  apply SeqF.append [1, 2, 3] 1 (by simp) (.tmp 61) (.tmp 68) 22 25 it (.slice none 0 0) 1 24 rfl rfl Try.underlying22 hit hz hs1 hs8 rfl (by decide) v0 (s.l0 ++ K.take j).length vs rfl (by rw [q1]; exact HX0.out) ⟨g3, 0, none⟩ 1 1 [.slice A2 xs.length c2] rfl rfl ?n1 ?n2 ?n3 ?n4 (fun γ => vs ++ [rowVal 1 xs.length (γ 2)]) ?n5 ?n6 ?n7
                  case n1 =>
                    intro γ' W hg hI
                    exact World.news_of_block (hI.here 3 g3 _ ((hg 3 (by simp)).trans q3)).1
                  case n2 =>
                    intro y hy
                    simp only [List.mem_singleton] at hy
                    subst hy
                    rfl
                  case n3 => rw [hKk]; unfold maxLen; omega
                  case n4 => rw [hKk]; omega
                  case n5 => intro γ' hg; simp only [hg 2 (by simp)]
                  case n6 => simp only [q2, hA2]
                  case n7 =>
                    intro u' x' hu' hx'n
                    rw [hKk] at hu'
                    obtain rfl := hu'.val (by decide)
                    obtain ⟨A1, c1', hA1⟩ := hu'.form
                    have HU' := Lib.hid hu'
                    clear hu'
                    go_simp
                    (apply SeqF.pure; (focus (first | rfl | (go_simp; done) | (simp [Region.wanted, yielded]; done))); (focus (intro w; go_simp; with_reducible rfl)); go_simp)
                    (apply SeqF.pure; (focus (first | rfl | (go_simp; done) | (simp [Region.wanted, yielded]; done))); (focus (intro w; go_simp; with_reducible rfl)); go_simp)
                    have r0 : (γ3.set (some 1) x') 0 = γ0 0 := (Gh.set_far _ _ (by decide)).trans q0
                    have r1 : (γ3.set (some 1) x') 1 = x' := Gh.set_here _ _ _
                    have r2 : (γ3.set (some 1) x') 2 = x := (Gh.set_far _ _ (by decide)).trans q2
                    generalize (γ3.set (some 1) x') = γ4 at r0 r1 r2 ⊢
                    apply SeqF.store [0, 1] 0 T (.cells #[v0, .int .i64 s.n0, v1, .int .i64 s.n1] 43 (0, 0)) (r0.trans g00) (by simp) (fun γ => .cells #[rowVal 1 (s.l0.length + j + 1) (γ 1), .int .i64 s.n0, v1, .int .i64 s.n1] 43 (0, 0))
                    · intro γ' hg; simp only [hg 1 (by simp)]
                    · (first | rfl | (go_simp; done) | (simp [Region.wanted, yielded]; done))
                    · intro γ' W hg hI hNW
                      have d0 : W.cell? ⟨T, 0, none⟩ = some v0 := (cell_of_row W T 0 _ _ (0, 0) hNW).trans rfl
                      have d1 : W.frozen? ⟨T, 0, none⟩ = false := frozen_of_row W T 0 _ _ hNW
                      refine ⟨W.setCell ⟨T, 0, none⟩ (.slice A1 (s.l0.length + j + 1) c1'), ?_, ?_⟩
                      · go_simp
                      · refine ⟨rfl, rfl, rfl, by simp, ?_, fun q hq => heap_setCell_other W _ q _ hq⟩
                        rw [r1, hA1]
                        exact (heap_setCell_same W T 0 _ _ _ hNW).trans rfl
                    have t0 : (γ4.set (some 0) (some (T, .cells #[rowVal 1 (s.l0.length + j + 1) x', .int .i64 s.n0, v1, .int .i64 s.n1] 43 (0, 0)))) 0 = some (T, .cells #[rowVal 1 (s.l0.length + j + 1) x', .int .i64 s.n0, v1, .int .i64 s.n1] 43 (0, 0)) := Gh.set_here _ _ _
                    have t1 : (γ4.set (some 0) (some (T, .cells #[rowVal 1 (s.l0.length + j + 1) x', .int .i64 s.n0, v1, .int .i64 s.n1] 43 (0, 0)))) 1 = x' := (Gh.set_far _ _ (by decide)).trans r1
                    have t2 : (γ4.set (some 0) (some (T, .cells #[rowVal 1 (s.l0.length + j + 1) x', .int .i64 s.n0, v1, .int .i64 s.n1] 43 (0, 0)))) 2 = x := (Gh.set_far _ _ (by decide)).trans r2
                    simp only [r1, hA1]
                    simp only [hA1] at t0 t1 t2
                    generalize (γ4.set (some 0) (some (T, .cells #[.slice A1 (s.l0.length + j + 1) c1', .int .i64 s.n0, v1, .int .i64 s.n1] 43 (0, 0)))) = γ5 at t0 t1 t2 ⊢
                    apply SeqF.done
                    intro w5 hI5
                    obtain ⟨lab9, hl9, hn9, hf9⟩ := rpush0 (s := { s with l0 := s.l0 ++ K.take j }) (xs := xs) (v := rowVal 1 xs.length x) (u := rowVal 1 (s.l0.length + j + 1) x') l6 HTQ.out hvs hlb hinn h5 (fun _ h => h) hI5 HB5.out.ok HB5.out.len
                      (by rw [hA1]; exact t0) (by rw [t1]; have h := HU'.out; rw [hA2]; simp only [hKk]; exact h) (by rw [t2]; exact HV.out) (by intro g ob hg; rw [t2] at hg; exact hvn g ob hg)
                    have eK : s.l0 ++ K.take (j + 1) = (s.l0 ++ K.take j) ++ [xs] := by
                      rw [List.take_succ_eq_append_getElem hjl, ← List.append_assoc, ← HXS.out, List.getD_eq_getElem?_getD, List.getElem?_eq_getElem hjl]
                      rfl
                    have HB9 : Hid (Both w N T lab9 { s with l0 := s.l0 ++ K } { s with l0 := (s.l0 ++ K.take j) ++ [xs] } w5) := HQ1.out.turnR hl9 hn9 hI5.os hI5.tape hI5.output hI5.size hf9
                    rw [← eK] at HB9
                    have AQ9 : Hid (w5.heap[Ob]? = some (.cells #[.int .u8 0, .int .u8 1, .int .i64 m, .slice (some ⟨b5, of5, none⟩) K.length uc] 45)) := (hI5.far Ob hOl hOS).trans AQ.out
                    have HO9 : Hid (lab9 Ob = 0) := (hl9 Ob hOl).trans HOQ.out
                    clear hn9 hl9 hf9
                    go_simp
                    go_wp2_with fail
                    all_goals exact ⟨⟨j + 1, lab9, by omega, by go_num, HB9.out, AQ9.out, HO9.out⟩, by simp [intOf] <;> omega⟩
                case hl => rfl
                case ho => kernel_rfl
              · obtain rfl : off = 2 := by have := HOF.out; exact this.symm
                have HQ1 : Hid (Both w N T labq { s with l1 := s.l1 ++ K } { s with l1 := s.l1 ++ K.take j } wr) := HQ
                obtain ⟨v0, v1, l6, hT, h4, h5⟩ := HQ1.out.ref
                simp only at hT h4 h5
                have HTQ := Lib.hid hT
                have hkeep := HQ1.out
                have fr : wr.frozen? ⟨T, 2, none⟩ = false := frozen_of_row wr T 2 _ _ hT
                have hTl : T < wr.heap.size := (Array.getElem?_eq_some_iff.1 hT).1
                obtain ⟨vs, hvs, hown, hlb, hinn⟩ := h5
                obtain ⟨x0, hx0, hx1⟩ := OwX.of hown
                obtain ⟨it, hit, hz, hs1, hs8⟩ : ∃ i, Try.prog.info? 25 = some i ∧ i.zero = some (.slice none 0 0) ∧ i.size = 1 ∧ i.bytes = 24 := by
                  obtain ⟨i, h, h2⟩ := Option.map_eq_some_iff.1 (show (Try.prog.info? 25).map (fun i => (i.zero, i.size, i.bytes)) = some (some (.slice none 0 0), 1, 24) by kernel_rfl)
                  simp only [Prod.mk.injEq] at h2
                  exact ⟨i, h, h2⟩
                have HX0 := Lib.hid hx0
                have hKk : (s.l1 ++ K.take j).length = s.l1.length + j := by simp; omega
                have hlN : ∀ g ob, x0 = some (g, ob) → g ≠ T := fun g ob hg e => by
                  have := hlb g (hx1 g ob hg).2.2
                  rw [e, l6] at this
                  omega
                have hOS : ¬ (Ob = T ∨ v1.ownBlock = some Ob) := by
                  have h0 := HOQ.out
                  rintro (e | e)
                  · rw [e, l6] at h0; omega
                  · have := hlb Ob e; omega
                have hOl : Ob < wr.heap.size := lt_of_heap AQ.out
                have HI0 := Lib.hid (Inv.start2 (S := fun g => g = T ∨ v1.ownBlock = some g) hT (.inl rfl) (fun g ob hg => ⟨(hx1 g ob hg).2.1, hlN g ob hg, .inr (hx1 g ob hg).2.2⟩))
                clear hx0 hx1 hT
                have g00 := gh2_0 (some (T, .cells #[v0, .int .i64 s.n0, v1, .int .i64 s.n1] 43 (0, 0))) x0
                have g01 := gh2_1 (some (T, .cells #[v0, .int .i64 s.n0, v1, .int .i64 s.n1] 43 (0, 0))) x0
                generalize gh2 (some (T, .cells #[v0, .int .i64 s.n0, v1, .int .i64 s.n1] 43 (0, 0))) x0 = γ0 at HI0 g00 g01
                -- the bytes that are put
                obtain ⟨A5, c5, e5, _, h5r⟩ := HLR.out
                simp only [Value.slice.injEq] at e5
                obtain ⟨rfl, _, rfl⟩ := e5
                obtain ⟨b5, of5, u, rfl, _, q5, B5, _⟩ := h5r j hjl
                have hbl5 : b5 < w.heap.size := block_lt_of_cell q5
                have hbl0 := HQ1.out.zero b5 hbl5
                have hb5w : b5 < wr.heap.size := by have := HQ1.out.below.size; omega
                have C5 := Lib.hid (((bcell HQ1.out.below).1 b5 _ hbl5).trans q5)
                obtain ⟨xs, hxs⟩ : ∃ xs, K.getD j [] = xs := ⟨_, rfl⟩
                rw [hxs] at B5
                have HXS := Lib.hid hxs
                clear hxs
                have HB5 := Lib.hid B5
                have far : ∀ W γ' q, q < w.heap.size → Inv wr (fun g => g = T ∨ v1.ownBlock = some g) γ' W → W.heap[q]? = w.heap[q]? := fun W γ' q hq hI => by
                  have hz := HQ1.out.zero q hq
                  have hzq := HQ1.out.below.size
                  refine (hI.far q (by omega) fun hs => ?_).trans (HQ1.out.below.block q hq)
                  rcases hs with e | e
                  · rw [e, l6] at hz; omega
                  · have := hlb q e; omega
                have HBF : Hid (∀ W γ', Inv wr (fun g => g = T ∨ v1.ownBlock = some g) γ' W → BB W u xs) := fun W γ' hI => HB5.out.keep fun q _ _ hlt => far W γ' q hlt hI
                have HCF : Hid (∀ W γ', Inv wr (fun g => g = T ∨ v1.ownBlock = some g) γ' W → W.cell? ⟨b5, of5 + j, none⟩ = some u) := fun W γ' hI => (World.cell?_of_block (far W γ' b5 hbl5 hI)).trans q5
                have HOF3 : Hid (∀ W γ', Inv wr (fun g => g = T ∨ v1.ownBlock = some g) γ' W → W.cell? ⟨Ob, 3, none⟩ = some (.slice (some ⟨b5, of5, none⟩) K.length uc)) := fun W γ' hI => (World.cell?_of_block (hI.far Ob hOl hOS)).trans ((cell_of_row wr Ob 3 _ _ (0, 0) AQ.out).trans rfl)
                clear q5 B5 far h5r
                have hj0 : (j : Int) < (K.length : Int) := by omega
                go_wp2_with fail
                apply wp_region_eff (Inv wr (fun g => g = T ∨ v1.ownBlock = some g)) γ0 HI0.out (hm := by kernel_rfl)
                case h =>
                  (apply SeqF.pure; (focus (first | rfl | (go_simp; done) | (simp [Region.wanted, yielded]; done))); (focus (intro w; go_simp; with_reducible rfl)); go_simp)
                  (apply SeqF.pure; (focus (first | rfl | (go_simp; done) | (simp [Region.wanted, yielded]; done))); (focus (intro w; go_simp; with_reducible rfl)); go_simp)
                  (apply SeqF.pure; (focus (first | rfl | (go_simp; done) | (simp [Region.wanted, yielded]; done))); (focus (intro w; go_simp; with_reducible rfl)); go_simp)
                  (apply SeqF.pure; (focus (first | rfl | (go_simp; done) | (simp [Region.wanted, yielded]; done))); (focus (intro w; go_simp; with_reducible rfl)); go_simp)
                  (apply SeqF.read [0]; (focus (first | rfl | (go_simp; done) | (simp [Region.wanted, yielded]; done))); (focus (intro γ' W hg hI; have x0 : W.cell? ⟨T, 2, none⟩ = some v1 := (cell_of_row W T 2 _ _ (0, 0) (hI.here 0 T _ ((hg 0 (by simp)).trans g00)).1).trans rfl; go_simp; with_reducible rfl)); go_simp)
                  (apply SeqF.pure; (focus (first | rfl | (go_simp; done) | (simp [Region.wanted, yielded]; done))); (focus (intro w; go_simp; with_reducible rfl)); go_simp)
                  (apply SeqF.read []; (focus (first | rfl | (go_simp; done) | (simp [Region.wanted, yielded]; done))); (focus (intro γ' W hg hI; have x0 := HOF3.out W γ' hI; go_simp; with_reducible rfl)); go_simp)
                  (apply SeqF.pure; (focus (first | rfl | (go_simp; done) | (simp [Region.wanted, yielded]; done))); (focus (intro w; go_simp; with_reducible rfl)); go_simp)
                  (apply SeqF.pure; (focus (first | rfl | (go_simp; done) | (simp [Region.wanted, yielded]; done))); (focus (intro w; go_simp; with_reducible rfl)); go_simp)
                  (apply SeqF.read []; (focus (first | rfl | (go_simp; done) | (simp [Region.wanted, yielded]; done))); (focus (intro γ' W hg hI; have x0 := HCF.out W γ' hI; go_simp; with_reducible rfl)); go_simp)
                  apply SeqF.callNew [] 2 5 1 xs.length (xs.map (Value.int .u8)) 7 #[u]
                  · (first | rfl | (go_simp; done) | (simp [Region.wanted, yielded]; done))
                  · intro w; kernel_rfl
                  · exact fun γ' W _ hI => copy_bytes u _ W (HBF.out W γ' hI)
                  intro v x hv hvn
                  obtain rfl := hv.val (by decide)
                  obtain ⟨A2, c2, hA2⟩ := hv.form
                  have HV := Lib.hid hv
                  clear hv
                  go_simp
                  apply SeqF.new [2] 3 (fun g => .slice (some ⟨g, 0, none⟩) 1 1) (fun γ => .cells #[rowVal 1 xs.length (γ 2)] 25)
                  · intro γ' hg; simp only [hg 2 (by simp)]
                  · (first | rfl | (go_simp; done) | (simp [Region.wanted, yielded]; done))
                  · intro γ' W hg hI
                    simp only [Gh.set_here]
                    rw [hA2]
                    go_simp
                  intro g3 hg3
                  have g32 : (γ0.set (some 2) x) 2 = x := Gh.set_here _ _ _
                  simp only [g32]
                  go_simp
                  have q3 : ((γ0.set (some 2) x).set (some 3) (some (g3, .cells #[.slice A2 xs.length c2] 25))) 3 = some (g3, .cells #[.slice A2 xs.length c2] 25) := Gh.set_here _ _ _
                  have q2 : ((γ0.set (some 2) x).set (some 3) (some (g3, .cells #[.slice A2 xs.length c2] 25))) 2 = x := (Gh.set_far _ _ (by decide)).trans (Gh.set_here _ _ _)
                  have q1 : ((γ0.set (some 2) x).set (some 3) (some (g3, .cells #[.slice A2 xs.length c2] 25))) 1 = x0 := ((Gh.set_far _ _ (by decide)).trans (Gh.set_far _ _ (by decide))).trans g01
                  have q0 : ((γ0.set (some 2) x).set (some 3) (some (g3, .cells #[.slice A2 xs.length c2] 25))) 0 = γ0 0 := (Gh.set_far _ _ (by decide)).trans (Gh.set_far _ _ (by decide))
                  generalize ((γ0.set (some 2) x).set (some 3) (some (g3, .cells #[.slice A2 xs.length c2] 25))) = γ3 at q0 q1 q2 q3 ⊢
                  apply SeqF.append [1, 2, 3] 1 (by simp) (.tmp 61) (.tmp 68) 22 25 it (.slice none 0 0) 1 24 rfl rfl Try.underlying22 hit hz hs1 hs8 rfl (by decide) v1 (s.l1 ++ K.take j).length vs rfl (by rw [q1]; exact HX0.out) ⟨g3, 0, none⟩ 1 1 [.slice A2 xs.length c2] rfl rfl ?n1 ?n2 ?n3 ?n4 (fun γ => vs ++ [rowVal 1 xs.length (γ 2)]) ?n5 ?n6 ?n7
                  case n1 =>
                    intro γ' W hg hI
                    exact World.news_of_block (hI.here 3 g3 _ ((hg 3 (by simp)).trans q3)).1
                  case n2 =>
                    intro y hy
                    simp only [List.mem_singleton] at hy
                    subst hy
                    rfl
                  case n3 => rw [hKk]; unfold maxLen; omega
                  case n4 => rw [hKk]; omega
                  case n5 => intro γ' hg; simp only [hg 2 (by simp)]
                  case n6 => simp only [q2, hA2]
                  case n7 =>
                    intro u' x' hu' hx'n
                    rw [hKk] at hu'
                    obtain rfl := hu'.val (by decide)
                    obtain ⟨A1, c1', hA1⟩ := hu'.form
                    have HU' := Lib.hid hu'
                    clear hu'
                    go_simp
                    (apply SeqF.pure; (focus (first | rfl | (go_simp; done) | (simp [Region.wanted, yielded]; done))); (focus (intro w; go_simp; with_reducible rfl)); go_simp)
                    (apply SeqF.pure; (focus (first | rfl | (go_simp; done) | (simp [Region.wanted, yielded]; done))); (focus (intro w; go_simp; with_reducible rfl)); go_simp)
                    have r0 : (γ3.set (some 1) x') 0 = γ0 0 := (Gh.set_far _ _ (by decide)).trans q0
                    have r1 : (γ3.set (some 1) x') 1 = x' := Gh.set_here _ _ _
                    have r2 : (γ3.set (some 1) x') 2 = x := (Gh.set_far _ _ (by decide)).trans q2
                    generalize (γ3.set (some 1) x') = γ4 at r0 r1 r2 ⊢
                    apply SeqF.store [0, 1] 0 T (.cells #[v0, .int .i64 s.n0, v1, .int .i64 s.n1] 43 (0, 0)) (r0.trans g00) (by simp) (fun γ => .cells #[v0, .int .i64 s.n0, rowVal 1 (s.l1.length + j + 1) (γ 1), .int .i64 s.n1] 43 (0, 0))
                    · intro γ' hg; simp only [hg 1 (by simp)]
                    · (first | rfl | (go_simp; done) | (simp [Region.wanted, yielded]; done))
                    · intro γ' W hg hI hNW
                      have d0 : W.cell? ⟨T, 2, none⟩ = some v1 := (cell_of_row W T 2 _ _ (0, 0) hNW).trans rfl
                      have d1 : W.frozen? ⟨T, 2, none⟩ = false := frozen_of_row W T 2 _ _ hNW
                      refine ⟨W.setCell ⟨T, 2, none⟩ (.slice A1 (s.l1.length + j + 1) c1'), ?_, ?_⟩
                      · go_simp
                      · refine ⟨rfl, rfl, rfl, by simp, ?_, fun q hq => heap_setCell_other W _ q _ hq⟩
                        rw [r1, hA1]
                        exact (heap_setCell_same W T 2 _ _ _ hNW).trans rfl
                    have t0 : (γ4.set (some 0) (some (T, .cells #[v0, .int .i64 s.n0, rowVal 1 (s.l1.length + j + 1) x', .int .i64 s.n1] 43 (0, 0)))) 0 = some (T, .cells #[v0, .int .i64 s.n0, rowVal 1 (s.l1.length + j + 1) x', .int .i64 s.n1] 43 (0, 0)) := Gh.set_here _ _ _
                    have t1 : (γ4.set (some 0) (some (T, .cells #[v0, .int .i64 s.n0, rowVal 1 (s.l1.length + j + 1) x', .int .i64 s.n1] 43 (0, 0)))) 1 = x' := (Gh.set_far _ _ (by decide)).trans r1
                    have t2 : (γ4.set (some 0) (some (T, .cells #[v0, .int .i64 s.n0, rowVal 1 (s.l1.length + j + 1) x', .int .i64 s.n1] 43 (0, 0)))) 2 = x := (Gh.set_far _ _ (by decide)).trans r2
                    simp only [r1, hA1]
                    simp only [hA1] at t0 t1 t2
                    generalize (γ4.set (some 0) (some (T, .cells #[v0, .int .i64 s.n0, .slice A1 (s.l1.length + j + 1) c1', .int .i64 s.n1] 43 (0, 0)))) = γ5 at t0 t1 t2 ⊢
                    apply SeqF.done
                    intro w5 hI5
                    obtain ⟨lab9, hl9, hn9, hf9⟩ := rpush1 (s := { s with l1 := s.l1 ++ K.take j }) (xs := xs) (v := rowVal 1 xs.length x) (u := rowVal 1 (s.l1.length + j + 1) x') l6 HTQ.out hvs hlb hinn h4 (fun _ h => h) hI5 HB5.out.ok HB5.out.len
                      (by rw [hA1]; exact t0) (by rw [t1]; have h := HU'.out; rw [hA2]; simp only [hKk]; exact h) (by rw [t2]; exact HV.out) (by intro g ob hg; rw [t2] at hg; exact hvn g ob hg)
                    have eK : s.l1 ++ K.take (j + 1) = (s.l1 ++ K.take j) ++ [xs] := by
                      rw [List.take_succ_eq_append_getElem hjl, ← List.append_assoc, ← HXS.out, List.getD_eq_getElem?_getD, List.getElem?_eq_getElem hjl]
                      rfl
                    have HB9 : Hid (Both w N T lab9 { s with l1 := s.l1 ++ K } { s with l1 := (s.l1 ++ K.take j) ++ [xs] } w5) := HQ1.out.turnR hl9 hn9 hI5.os hI5.tape hI5.output hI5.size hf9
                    rw [← eK] at HB9
                    have AQ9 : Hid (w5.heap[Ob]? = some (.cells #[.int .u8 0, .int .u8 2, .int .i64 m, .slice (some ⟨b5, of5, none⟩) K.length uc] 45)) := (hI5.far Ob hOl hOS).trans AQ.out
                    have HO9 : Hid (lab9 Ob = 0) := (hl9 Ob hOl).trans HOQ.out
                    clear hn9 hl9 hf9
                    go_simp
                    go_wp2_with fail
                    all_goals exact ⟨⟨j + 1, lab9, by omega, by go_num, HB9.out, AQ9.out, HO9.out⟩, by simp [intOf] <;> omega⟩
                case hl => rfl
                case ho => kernel_rfl
            · have ej : j = K.length := by omega
              subst ej
              rw [List.take_length] at HQ
              have hX := (ns_len s HS.out K 0).1
              go_wp2_with fail
              all_goals exact ⟨⟨k + 1, labq, s.add sd K, by omega, by go_num, HQ.out, by have h := HTO.out; have h2 := HTK.out; show _ ≤ _; omega⟩, by simp [intOf] <;> omega⟩
        · as_aux_lemma =>
          go_wp2_with fail
          refine (next_any lab6 N s sd w6 HBo6.out.net hsd).mono ?_
          rintro e w7 ⟨h7, hg7⟩
          have hT6 := HBo6.out.ref.lt
          by_cases hn : s.next sd < (s.half sd).length
          · rw [if_pos hn] at h7
            obtain ⟨⟨v, rfl, hv⟩, hn7⟩ := h7
            have HBo7 := Lib.hid (HBo6.out.turn (fun g hg => ext_old lab6 hg) hn7 (fr_of_grown HBo6.out hg7))
            have hxs : okB ((s.half sd).getD (s.next sd) []) ∧ ((s.half sd).getD (s.next sd) []).length ≤ 140737488355328 := by
              obtain ⟨_, _, _, _, _, _, _, hr⟩ := HBo6.out.ref.half HS.out
              obtain ⟨_, _, _, hf⟩ := hr.form
              obtain ⟨_, _, _, _, hB⟩ := hf _ hn
              exact ⟨hB.ok, hB.len⟩
            have HV := Lib.hid (hv.rd hxs.1 hxs.2)
            have HVb : Hid (∀ q, v.ownBlock = some q → q ≠ T) := fun q hq => by have := (World.ownsRow.lt hv q hq).1; omega
            generalize ext lab6 w6.heap.size = lab7 at HBo7
            clear hv hn7 hg7 HBo6 A0 o0 o1 o2 o3 hxs hT6
            obtain ⟨A7, cp7, tr7, cA7, cB7, fB7, htr7, hr7⟩ := HBo7.out.ref.half HS.out
            rw [HOF.out] at cA7 cB7 fB7
            have hm7 := half_len hr7
            unfold maxLen at hm7
            have hTl : T < w7.heap.size := HBo7.out.ref.lt
            obtain ⟨_, _, hL, hX, _, _⟩ := ns_half s HS.out [] (s.next sd + 1)
            have hX2 := (ns_len s HS.out [] (s.next sd + 1)).2
            have hr8 := HBo7.out.ref.setNext HS.out (s.next sd + 1)
            clear hr7 htr7
            obtain ⟨ln, hLn⟩ : ∃ ln, (s.half sd).length = ln := ⟨_, rfl⟩
            obtain ⟨nx, hnx⟩ : ∃ nx, s.next sd = nx := ⟨_, rfl⟩
            have HLn := Lib.hid hLn
            have HNx := Lib.hid hnx
            rw [hLn] at cA7 hm7
            rw [hnx] at cB7
            rw [hLn, hnx] at hn
            clear hLn hnx hr8
            have hn2 : (nx : Int) < (ln : Int) := by omega
            have hn3 : ¬ (ln : Int) ≤ (nx : Int) := by omega
            have w63 : IntKind.i64.wrap ((nx : Int) + 1) = (nx : Int) + 1 := IntWalk.i64_in _ (by omega)
            have w64 : IntKind.i64.wrap (nx : Int) = (nx : Int) := IntWalk.i64_in _ (by omega)
            go_wp2_with fail
            refine wp_region_text (fun W => Below w7.heap.size w7 W ∧ W.heap = w7.heap) (by kernel_rfl) (by kernel_rfl) ⟨bl_drew (Below.refl _ _), rfl⟩ ?_
            (apply SeqL.pure; (focus (first | rfl | (go_simp; done) | (simp [Region.wanted, yielded]; done))); (focus (intro w; go_simp; with_reducible rfl)); go_simp)
            (apply SeqL.pure; (focus (first | rfl | (go_simp; done) | (simp [Region.wanted, yielded]; done))); (focus (intro w; go_simp; with_reducible rfl)); go_simp)
            (apply SeqL.pure; (focus (first | rfl | (go_simp; done) | (simp [Region.wanted, yielded]; done))); (focus (intro w; go_simp; with_reducible rfl)); go_simp)
            (apply SeqL.pure; (focus (first | rfl | (go_simp; done) | (simp [Region.wanted, yielded]; done))); (focus (intro w; go_simp; with_reducible rfl)); go_simp)
            (apply SeqL.pure; (focus (first | rfl | (go_simp; done) | (simp [Region.wanted, yielded]; done))); (focus (intro w; go_simp; with_reducible rfl)); go_simp)
            (apply SeqL.pure; (focus (first | rfl | (go_simp; done) | (simp [Region.wanted, yielded]; done))); (focus (intro w; go_simp; with_reducible rfl)); go_simp)
            (apply SeqL.read; (focus (first | rfl | (go_simp; done) | (simp [Region.wanted, yielded]; done))); (focus (intro W hF; have x0 := (cell_heap hF.2 _).trans cB7; go_simp; with_reducible rfl)); go_simp)
            (apply SeqL.pure; (focus (first | rfl | (go_simp; done) | (simp [Region.wanted, yielded]; done))); (focus (intro w; go_simp; with_reducible rfl)); go_simp)
            (apply SeqL.pure; (focus (first | rfl | (go_simp; done) | (simp [Region.wanted, yielded]; done))); (focus (intro w; go_simp; with_reducible rfl)); go_simp)
            (apply SeqL.pure; (focus (first | rfl | (go_simp; done) | (simp [Region.wanted, yielded]; done))); (focus (intro w; go_simp; with_reducible rfl)); go_simp)
            (apply SeqL.read; (focus (first | rfl | (go_simp; done) | (simp [Region.wanted, yielded]; done))); (focus (intro W hF; have x0 := (cell_heap hF.2 _).trans cA7; go_simp; with_reducible rfl)); go_simp)
            (apply SeqL.pure; (focus (first | rfl | (go_simp; done) | (simp [Region.wanted, yielded]; done))); (focus (intro w; go_simp; with_reducible rfl)); go_simp)
            (apply SeqL.pure; (focus (first | rfl | (go_simp; done) | (simp [Region.wanted, yielded]; done))); (focus (intro w; go_simp; with_reducible rfl)); go_simp)
            (apply SeqL.pure; (focus (first | rfl | (go_simp; done) | (simp [Region.wanted, yielded]; done))); (focus (intro w; go_simp; with_reducible rfl)); go_simp)
            refine SeqL.done fun w8 hbb => ?_
            have hhh := hbb.2
            replace hbb := hbb.1
            have HBo8 := Lib.hid (HBo7.out.same hbb)
            have cA8 := (cell_heap hhh ⟨T, off, none⟩).trans cA7
            have cB8 := (cell_heap hhh ⟨T, off + 1, none⟩).trans cB7
            have fB8 := (frozen_heap hhh ⟨T, off + 1, none⟩).trans fB7
            have HV8 := Lib.hid (HV.out.below hbb)
            have hTl8 : T < w8.heap.size := by rw [hhh]; exact hTl
            have hR9 := HBo8.out.ref.setNext HS.out (s.next sd + 1)
            rw [HOF.out] at hR9
            have HBo9 : Hid (Both w N T lab7 (s.to sd (s.next sd + 1)) (s.to sd (s.next sd + 1)) (w8.setCell ⟨T, off + 1, none⟩ (.int .i64 ((s.next sd + 1 : Nat) : Int)))) := HBo8.out.turnR (fun _ _ => rfl) hR9 rfl rfl rfl (by simp) (fun q hq hl => heap_setCell_other w8 _ q _ (fun e => by
              obtain ⟨_, _, l6, _⟩ := HBo8.out.ref
              have l6 : lab7 T = 6 := l6
              have e : q = T := e
              rw [e, l6] at hl
              omega))
            have HV9 : Hid (BB (w8.setCell ⟨T, off + 1, none⟩ (.int .i64 ((s.next sd + 1 : Nat) : Int))) v ((s.half sd).getD (s.next sd) [])) := HV8.out.keep (fun q h0 hq hlt => heap_setCell_other w8 _ q _ (fun e => HVb.out q hq e))
            rw [HNx.out] at HBo9 HV9
            clear hbb hhh HBo7 HV cA7 cB7 fB7 HV8 hR9 HBo8
            have e9 : (((nx + 1 : Nat)) : Int) = (nx : Int) + 1 := by omega
            rw [e9] at HBo9 HV9
            go_wp2_with fail
            generalize (w8.setCell ⟨T, off + 1, none⟩ (.int .i64 ((nx : Int) + 1))) = w9 at HBo9 HV9 ⊢
            clear cA8 cB8 fB8 hTl8
            obtain ⟨A9, cp9, tr9, cA9, cB9, fB9, htr9, hr9⟩ := HBo9.out.ref.half HS.out
            rw [HOF.out] at cA9 cB9 fB9
            have hm9 := half_len hr9
            unfold maxLen at hm9
            rw [HNx.out] at hL hX
            rw [hL] at cA9 hm9 hr9
            rw [hX] at cB9
            obtain ⟨g, u, hA9, hcu, hBu⟩ : ∃ g u, A9 = some ⟨g, 0, none⟩ ∧ w9.cell? ⟨g, nx, none⟩ = some u ∧ BB w9 u ((s.half sd).getD nx []) := by
              obtain ⟨A', c', e', hf⟩ := hr9.form
              simp only [Value.slice.injEq] at e'
              obtain ⟨rfl, _, _⟩ := e'
              exact hf _ (by rw [HLn.out]; exact hn)
            subst hA9
            have HBU := Lib.hid hBu
            rw [HLn.out] at cA9
            clear hBu hr9 hm9
            rw [e9] at cB9
            go_wp2_with fail
            refine wp_region_text (fun W => Below w9.heap.size w9 W ∧ W.heap = w9.heap) (by kernel_rfl) (by kernel_rfl) ⟨bl_drew (Below.refl _ _), rfl⟩ ?_
            (apply SeqL.pure; (focus (first | rfl | (go_simp; done) | (simp [Region.wanted, yielded]; done))); (focus (intro w; go_simp; with_reducible rfl)); go_simp)
            (apply SeqL.pure; (focus (first | rfl | (go_simp; done) | (simp [Region.wanted, yielded]; done))); (focus (intro w; go_simp; with_reducible rfl)); go_simp)
            (apply SeqL.pure; (focus (first | rfl | (go_simp; done) | (simp [Region.wanted, yielded]; done))); (focus (intro w; go_simp; with_reducible rfl)); go_simp)
            (apply SeqL.pure; (focus (first | rfl | (go_simp; done) | (simp [Region.wanted, yielded]; done))); (focus (intro w; go_simp; with_reducible rfl)); go_simp)
            (apply SeqL.pure; (focus (first | rfl | (go_simp; done) | (simp [Region.wanted, yielded]; done))); (focus (intro w; go_simp; with_reducible rfl)); go_simp)
            (apply SeqL.pure; (focus (first | rfl | (go_simp; done) | (simp [Region.wanted, yielded]; done))); (focus (intro w; go_simp; with_reducible rfl)); go_simp)
            (apply SeqL.pure; (focus (first | rfl | (go_simp; done) | (simp [Region.wanted, yielded]; done))); (focus (intro w; go_simp; with_reducible rfl)); go_simp)
            (apply SeqL.read; (focus (first | rfl | (go_simp; done) | (simp [Region.wanted, yielded]; done))); (focus (intro W hF; have x0 := (cell_heap hF.2 _).trans cA9; go_simp; with_reducible rfl)); go_simp)
            (apply SeqL.pure; (focus (first | rfl | (go_simp; done) | (simp [Region.wanted, yielded]; done))); (focus (intro w; go_simp; with_reducible rfl)); go_simp)
            (apply SeqL.pure; (focus (first | rfl | (go_simp; done) | (simp [Region.wanted, yielded]; done))); (focus (intro w; go_simp; with_reducible rfl)); go_simp)
            (apply SeqL.pure; (focus (first | rfl | (go_simp; done) | (simp [Region.wanted, yielded]; done))); (focus (intro w; go_simp; with_reducible rfl)); go_simp)
            (apply SeqL.read; (focus (first | rfl | (go_simp; done) | (simp [Region.wanted, yielded]; done))); (focus (intro W hF; have x0 := (cell_heap hF.2 _).trans cB9; go_simp; with_reducible rfl)); go_simp)
            (apply SeqL.pure; (focus (first | rfl | (go_simp; done) | (simp [Region.wanted, yielded]; done))); (focus (intro w; go_simp; with_reducible rfl)); go_simp)
            (apply SeqL.pure; (focus (first | rfl | (go_simp; done) | (simp [Region.wanted, yielded]; done))); (focus (intro w; go_simp; with_reducible rfl)); go_simp)
            (apply SeqL.read; (focus (first | rfl | (go_simp; done) | (simp [Region.wanted, yielded]; done))); (focus (intro W hF; have x0 := (cell_heap hF.2 _).trans hcu; go_simp; with_reducible rfl)); go_simp)
            refine SeqL.call (.bool true) 11 #[v, u] ?_ (fun w => by kernel_rfl) (fun W hW => (same_bytes v u _ _ W (HV9.out.keep (w1 := W) fun _ _ _ _ => by rw [hW.2]) (HBU.out.keep (w1 := W) fun _ _ _ _ => by rw [hW.2])).mono fun e w' h => ⟨by rw [h.1, decide_eq_true rfl], by rw [← h.2]; exact hW⟩) ?_
            · (first | rfl | (go_simp; done) | (simp [Region.wanted, yielded]; done))
            go_simp
            (apply SeqL.pure; (focus (first | rfl | (go_simp; done) | (simp [Region.wanted, yielded]; done))); (focus (intro w; go_simp; with_reducible rfl)); go_simp)
            (apply SeqL.pure; (focus (first | rfl | (go_simp; done) | (simp [Region.wanted, yielded]; done))); (focus (intro w; go_simp; with_reducible rfl)); go_simp)
            refine SeqL.done fun w10 hbb => ?_
            replace hbb := hbb.1
            have HBo10 := Lib.hid (HBo9.out.same hbb)
            clear hbb
            go_wp2_with fail
            go_roundw
            case rel => exact ⟨k + 1, lab7, (s.to sd (nx + 1)), by omega, by go_num, HBo10.out, by have h := HTO.out; have h2 := HTK.out; have h3 := hX2; rw [HNx.out] at h3; show _ ≤ _; omega⟩
            case measure => simp [intOf] <;> omega
          · rw [if_neg hn] at h7
            obtain ⟨rfl, hn7⟩ := h7
            have HBo7 := Lib.hid (HBo6.out.turn (fun g hg => ext_old lab6 hg) hn7 (fr_of_grown HBo6.out hg7))
            have hnn := net_next HBo6.out.net HS.out
            generalize ext lab6 w6.heap.size = lab7 at HBo7
            clear hn7 hg7 HBo6 A0 o0 o1 o2 o3
            obtain ⟨A7, cp7, tr7, cA7, cB7, fB7, htr7, hr7⟩ := HBo7.out.ref.half HS.out
            rw [HOF.out] at cA7 cB7 fB7
            have hm7 := half_len hr7
            unfold maxLen at hm7
            clear hr7
            have hn3 : (((s.half sd).length : Nat) : Int) ≤ ((s.next sd : Nat) : Int) := by omega
            generalize (s.half sd).length = ln at *
            generalize s.next sd = nx at *
            go_wp2_with fail
            refine wp_region_text (fun W => Below w7.heap.size w7 W ∧ W.heap = w7.heap) (by kernel_rfl) (by kernel_rfl) ⟨bl_drew (Below.refl _ _), rfl⟩ ?_
            (apply SeqL.pure; (focus (first | rfl | (go_simp; done) | (simp [Region.wanted, yielded]; done))); (focus (intro w; go_simp; with_reducible rfl)); go_simp)
            (apply SeqL.pure; (focus (first | rfl | (go_simp; done) | (simp [Region.wanted, yielded]; done))); (focus (intro w; go_simp; with_reducible rfl)); go_simp)
            (apply SeqL.pure; (focus (first | rfl | (go_simp; done) | (simp [Region.wanted, yielded]; done))); (focus (intro w; go_simp; with_reducible rfl)); go_simp)
            (apply SeqL.pure; (focus (first | rfl | (go_simp; done) | (simp [Region.wanted, yielded]; done))); (focus (intro w; go_simp; with_reducible rfl)); go_simp)
            (apply SeqL.pure; (focus (first | rfl | (go_simp; done) | (simp [Region.wanted, yielded]; done))); (focus (intro w; go_simp; with_reducible rfl)); go_simp)
            (apply SeqL.pure; (focus (first | rfl | (go_simp; done) | (simp [Region.wanted, yielded]; done))); (focus (intro w; go_simp; with_reducible rfl)); go_simp)
            (apply SeqL.read; (focus (first | rfl | (go_simp; done) | (simp [Region.wanted, yielded]; done))); (focus (intro W hF; have x0 := (cell_heap hF.2 _).trans cB7; go_simp; with_reducible rfl)); go_simp)
            (apply SeqL.pure; (focus (first | rfl | (go_simp; done) | (simp [Region.wanted, yielded]; done))); (focus (intro w; go_simp; with_reducible rfl)); go_simp)
            (apply SeqL.pure; (focus (first | rfl | (go_simp; done) | (simp [Region.wanted, yielded]; done))); (focus (intro w; go_simp; with_reducible rfl)); go_simp)
            (apply SeqL.pure; (focus (first | rfl | (go_simp; done) | (simp [Region.wanted, yielded]; done))); (focus (intro w; go_simp; with_reducible rfl)); go_simp)
            (apply SeqL.read; (focus (first | rfl | (go_simp; done) | (simp [Region.wanted, yielded]; done))); (focus (intro W hF; have x0 := (cell_heap hF.2 _).trans cA7; go_simp; with_reducible rfl)); go_simp)
            (apply SeqL.pure; (focus (first | rfl | (go_simp; done) | (simp [Region.wanted, yielded]; done))); (focus (intro w; go_simp; with_reducible rfl)); go_simp)
            (apply SeqL.pure; (focus (first | rfl | (go_simp; done) | (simp [Region.wanted, yielded]; done))); (focus (intro w; go_simp; with_reducible rfl)); go_simp)
            (apply SeqL.pure; (focus (first | rfl | (go_simp; done) | (simp [Region.wanted, yielded]; done))); (focus (intro w; go_simp; with_reducible rfl)); go_simp)
            refine SeqL.done fun w8 hbb => ?_
            have hhh := hbb.2
            replace hbb := hbb.1
            have HBo8 := Lib.hid (HBo7.out.same hbb)
            clear hbb hhh
            go_wp2_with fail
            go_roundw
            case rel => exact ⟨k + 1, lab7, s, by omega, by go_num, HBo8.out, by have h := HTO.out; have h2 := HTK.out; show _ ≤ _; omega⟩
            case measure => simp [intOf] <;> omega
        · as_aux_lemma =>
          go_wp2_with fail
          refine (at_any lab6 N s sd m w6 HBo6.out.net hsd).mono ?_
          rintro e w7 ⟨h7, hb7⟩
          have HBo7 := Lib.hid (HBo6.out.same hb7)
          have A7 : w7.heap[Ob]? = some (.cells #[.int .u8 2, .int .u8 sd, .int .i64 m, .slice UA K.length uc] 45) := (hb7.block Ob (lt_of_heap A0.out)).trans A0.out
          have p2 : w7.cell? ⟨Ob, 2, none⟩ = some (.int .i64 m) := (cell_of_row w7 Ob 2 _ _ (0, 0) A7).trans rfl
          obtain ⟨A7x, cp7, tr7, cA7, cB7, fB7, htr7, hr7⟩ := HBo7.out.ref.half HS.out
          rw [HOF.out] at cA7 cB7 fB7
          have hm7 := half_len hr7
          unfold maxLen at hm7
          rcases (by omega : m < 0 ∨ (0 ≤ m ∧ m < (((s.half sd).length : Nat) : Int)) ∨ (0 ≤ m ∧ (((s.half sd).length : Nat) : Int) ≤ m)) with hc | ⟨hc, hc2⟩ | ⟨hc, hc2⟩
          · rw [if_neg (by omega)] at h7
            subst h7
            clear hb7 hr7 HBo6 A0 o0 o1 o2 o3
            generalize (s.half sd).length = ln at *
            go_wp2_with fail
            refine wp_region_text (fun W => Below w7.heap.size w7 W ∧ W.heap = w7.heap) (by kernel_rfl) (by kernel_rfl) ⟨bl_drew (Below.refl _ _), rfl⟩ ?_
            (apply SeqL.pure; (focus (first | rfl | (go_simp; done) | (simp [Region.wanted, yielded]; done))); (focus (intro w; go_simp; with_reducible rfl)); go_simp)
            (apply SeqL.pure; (focus (first | rfl | (go_simp; done) | (simp [Region.wanted, yielded]; done))); (focus (intro w; go_simp; with_reducible rfl)); go_simp)
            (apply SeqL.pure; (focus (first | rfl | (go_simp; done) | (simp [Region.wanted, yielded]; done))); (focus (intro w; go_simp; with_reducible rfl)); go_simp)
            (apply SeqL.read; (focus (first | rfl | (go_simp; done) | (simp [Region.wanted, yielded]; done))); (focus (intro W hF; have x0 := (cell_heap hF.2 _).trans p2; go_simp; with_reducible rfl)); go_simp)
            (apply SeqL.pure; (focus (first | rfl | (go_simp; done) | (simp [Region.wanted, yielded]; done))); (focus (intro w; go_simp; with_reducible rfl)); go_simp)
            (apply SeqL.pure; (focus (first | rfl | (go_simp; done) | (simp [Region.wanted, yielded]; done))); (focus (intro w; go_simp; with_reducible rfl)); go_simp)
            (apply SeqL.pure; (focus (first | rfl | (go_simp; done) | (simp [Region.wanted, yielded]; done))); (focus (intro w; go_simp; with_reducible rfl)); go_simp)
            (apply SeqL.skip; (focus (first | rfl | (go_simp; done) | (simp [Region.wanted, yielded]; done))); go_simp)
            (apply SeqL.skip; (focus (first | rfl | (go_simp; done) | (simp [Region.wanted, yielded]; done))); go_simp)
            (apply SeqL.skip; (focus (first | rfl | (go_simp; done) | (simp [Region.wanted, yielded]; done))); go_simp)
            (apply SeqL.skip; (focus (first | rfl | (go_simp; done) | (simp [Region.wanted, yielded]; done))); go_simp)
            (apply SeqL.skip; (focus (first | rfl | (go_simp; done) | (simp [Region.wanted, yielded]; done))); go_simp)
            (apply SeqL.skip; (focus (first | rfl | (go_simp; done) | (simp [Region.wanted, yielded]; done))); go_simp)
            (apply SeqL.skip; (focus (first | rfl | (go_simp; done) | (simp [Region.wanted, yielded]; done))); go_simp)
            (apply SeqL.skip; (focus (first | rfl | (go_simp; done) | (simp [Region.wanted, yielded]; done))); go_simp)
            (apply SeqL.pure; (focus (first | rfl | (go_simp; done) | (simp [Region.wanted, yielded]; done))); (focus (intro w; go_simp; with_reducible rfl)); go_simp)
            (apply SeqL.pure; (focus (first | rfl | (go_simp; done) | (simp [Region.wanted, yielded]; done))); (focus (intro w; go_simp; with_reducible rfl)); go_simp)
            refine SeqL.done fun w8 hbb => ?_
            have hhh := hbb.2
            replace hbb := hbb.1
            have HBo8 := Lib.hid (HBo7.out.same hbb)
            clear hbb hhh
            go_wp2_with fail
            refine wp_region_text (fun W => Below w8.heap.size w8 W ∧ W.heap = w8.heap) (by kernel_rfl) (by kernel_rfl) ⟨bl_drew (Below.refl _ _), rfl⟩ ?_
            (apply SeqL.pure; (focus (first | rfl | (go_simp; done) | (simp [Region.wanted, yielded]; done))); (focus (intro w; go_simp; with_reducible rfl)); go_simp)
            (apply SeqL.pure; (focus (first | rfl | (go_simp; done) | (simp [Region.wanted, yielded]; done))); (focus (intro w; go_simp; with_reducible rfl)); go_simp)
            (apply SeqL.pure; (focus (first | rfl | (go_simp; done) | (simp [Region.wanted, yielded]; done))); (focus (intro w; go_simp; with_reducible rfl)); go_simp)
            (apply SeqL.pure; (focus (first | rfl | (go_simp; done) | (simp [Region.wanted, yielded]; done))); (focus (intro w; go_simp; with_reducible rfl)); go_simp)
            (apply SeqL.pure; (focus (first | rfl | (go_simp; done) | (simp [Region.wanted, yielded]; done))); (focus (intro w; go_simp; with_reducible rfl)); go_simp)
            (apply SeqL.pure; (focus (first | rfl | (go_simp; done) | (simp [Region.wanted, yielded]; done))); (focus (intro w; go_simp; with_reducible rfl)); go_simp)
            (apply SeqL.skip; (focus (first | rfl | (go_simp; done) | (simp [Region.wanted, yielded]; done))); go_simp)
            (apply SeqL.skip; (focus (first | rfl | (go_simp; done) | (simp [Region.wanted, yielded]; done))); go_simp)
            (apply SeqL.skip; (focus (first | rfl | (go_simp; done) | (simp [Region.wanted, yielded]; done))); go_simp)
            (apply SeqL.skip; (focus (first | rfl | (go_simp; done) | (simp [Region.wanted, yielded]; done))); go_simp)
            (apply SeqL.skip; (focus (first | rfl | (go_simp; done) | (simp [Region.wanted, yielded]; done))); go_simp)
            (apply SeqL.skip; (focus (first | rfl | (go_simp; done) | (simp [Region.wanted, yielded]; done))); go_simp)
            (apply SeqL.skip; (focus (first | rfl | (go_simp; done) | (simp [Region.wanted, yielded]; done))); go_simp)
            (apply SeqL.skip; (focus (first | rfl | (go_simp; done) | (simp [Region.wanted, yielded]; done))); go_simp)
            (apply SeqL.skip; (focus (first | rfl | (go_simp; done) | (simp [Region.wanted, yielded]; done))); go_simp)
            (apply SeqL.skip; (focus (first | rfl | (go_simp; done) | (simp [Region.wanted, yielded]; done))); go_simp)
            (apply SeqL.skip; (focus (first | rfl | (go_simp; done) | (simp [Region.wanted, yielded]; done))); go_simp)
            (apply SeqL.pure; (focus (first | rfl | (go_simp; done) | (simp [Region.wanted, yielded]; done))); (focus (intro w; go_simp; with_reducible rfl)); go_simp)
            (apply SeqL.pure; (focus (first | rfl | (go_simp; done) | (simp [Region.wanted, yielded]; done))); (focus (intro w; go_simp; with_reducible rfl)); go_simp)
            (apply SeqL.pure; (focus (first | rfl | (go_simp; done) | (simp [Region.wanted, yielded]; done))); (focus (intro w; go_simp; with_reducible rfl)); go_simp)
            (apply SeqL.pure; (focus (first | rfl | (go_simp; done) | (simp [Region.wanted, yielded]; done))); (focus (intro w; go_simp; with_reducible rfl)); go_simp)
            (apply SeqL.pure; (focus (first | rfl | (go_simp; done) | (simp [Region.wanted, yielded]; done))); (focus (intro w; go_simp; with_reducible rfl)); go_simp)
            (apply SeqL.pure; (focus (first | rfl | (go_simp; done) | (simp [Region.wanted, yielded]; done))); (focus (intro w; go_simp; with_reducible rfl)); go_simp)
            (apply SeqL.pure; (focus (first | rfl | (go_simp; done) | (simp [Region.wanted, yielded]; done))); (focus (intro w; go_simp; with_reducible rfl)); go_simp)
            (apply SeqL.pure; (focus (first | rfl | (go_simp; done) | (simp [Region.wanted, yielded]; done))); (focus (intro w; go_simp; with_reducible rfl)); go_simp)
            (apply SeqL.pure; (focus (first | rfl | (go_simp; done) | (simp [Region.wanted, yielded]; done))); (focus (intro w; go_simp; with_reducible rfl)); go_simp)
            (apply SeqL.pure; (focus (first | rfl | (go_simp; done) | (simp [Region.wanted, yielded]; done))); (focus (intro w; go_simp; with_reducible rfl)); go_simp)
            (apply SeqL.pure; (focus (first | rfl | (go_simp; done) | (simp [Region.wanted, yielded]; done))); (focus (intro w; go_simp; with_reducible rfl)); go_simp)
            refine SeqL.done fun w9 hbb => ?_
            have hhh := hbb.2
            replace hbb := hbb.1
            have HBo9 := Lib.hid (HBo8.out.same hbb)
            clear hbb hhh
            go_wp2_with fail
            go_roundw
            case rel => exact ⟨k + 1, lab6, s, by omega, by go_num, HBo9.out, by have h := HTO.out; have h2 := HTK.out; show _ ≤ _; omega⟩
            case measure => simp [intOf] <;> omega
          · rw [if_pos (by omega)] at h7
            obtain ⟨v, rfl, hv⟩ := h7
            obtain ⟨i, rfl⟩ := Int.eq_ofNat_of_zero_le hc
            obtain ⟨g, u, hA7, hcu, hBu⟩ : ∃ g u, A7x = some ⟨g, 0, none⟩ ∧ w7.cell? ⟨g, i, none⟩ = some u ∧ BB w7 u ((s.half sd).getD i []) := by
              obtain ⟨A', c', e', hf⟩ := hr7.form
              simp only [Value.slice.injEq] at e'
              obtain ⟨rfl, _, _⟩ := e'
              exact hf _ (by omega)
            subst hA7
            have HBU := Lib.hid hBu
            have HV : Hid (BB w7 v ((s.half sd).getD i [])) := hv.rd hBu.ok hBu.len
            clear hb7 hr7 HBo6 A0 o0 o1 o2 o3 hBu hv
            generalize hLn : (s.half sd).length = ln at *
            clear hLn
            go_wp2_with fail
            refine wp_region_text (fun W => Below w7.heap.size w7 W ∧ W.heap = w7.heap) (by kernel_rfl) (by kernel_rfl) ⟨bl_drew (Below.refl _ _), rfl⟩ ?_
            (apply SeqL.pure; (focus (first | rfl | (go_simp; done) | (simp [Region.wanted, yielded]; done))); (focus (intro w; go_simp; with_reducible rfl)); go_simp)
            (apply SeqL.pure; (focus (first | rfl | (go_simp; done) | (simp [Region.wanted, yielded]; done))); (focus (intro w; go_simp; with_reducible rfl)); go_simp)
            (apply SeqL.pure; (focus (first | rfl | (go_simp; done) | (simp [Region.wanted, yielded]; done))); (focus (intro w; go_simp; with_reducible rfl)); go_simp)
            (apply SeqL.read; (focus (first | rfl | (go_simp; done) | (simp [Region.wanted, yielded]; done))); (focus (intro W hF; have x0 := (cell_heap hF.2 _).trans p2; go_simp; with_reducible rfl)); go_simp)
            (apply SeqL.pure; (focus (first | rfl | (go_simp; done) | (simp [Region.wanted, yielded]; done))); (focus (intro w; go_simp; with_reducible rfl)); go_simp)
            (apply SeqL.pure; (focus (first | rfl | (go_simp; done) | (simp [Region.wanted, yielded]; done))); (focus (intro w; go_simp; with_reducible rfl)); go_simp)
            (apply SeqL.pure; (focus (first | rfl | (go_simp; done) | (simp [Region.wanted, yielded]; done))); (focus (intro w; go_simp; with_reducible rfl)); go_simp)
            (apply SeqL.pure; (focus (first | rfl | (go_simp; done) | (simp [Region.wanted, yielded]; done))); (focus (intro w; go_simp; with_reducible rfl)); go_simp)
            (apply SeqL.read; (focus (first | rfl | (go_simp; done) | (simp [Region.wanted, yielded]; done))); (focus (intro W hF; have x0 := (cell_heap hF.2 _).trans p2; go_simp; with_reducible rfl)); go_simp)
            (apply SeqL.pure; (focus (first | rfl | (go_simp; done) | (simp [Region.wanted, yielded]; done))); (focus (intro w; go_simp; with_reducible rfl)); go_simp)
            (apply SeqL.pure; (focus (first | rfl | (go_simp; done) | (simp [Region.wanted, yielded]; done))); (focus (intro w; go_simp; with_reducible rfl)); go_simp)
            (apply SeqL.pure; (focus (first | rfl | (go_simp; done) | (simp [Region.wanted, yielded]; done))); (focus (intro w; go_simp; with_reducible rfl)); go_simp)
            (apply SeqL.read; (focus (first | rfl | (go_simp; done) | (simp [Region.wanted, yielded]; done))); (focus (intro W hF; have x0 := (cell_heap hF.2 _).trans cA7; go_simp; with_reducible rfl)); go_simp)
            (apply SeqL.pure; (focus (first | rfl | (go_simp; done) | (simp [Region.wanted, yielded]; done))); (focus (intro w; go_simp; with_reducible rfl)); go_simp)
            (apply SeqL.pure; (focus (first | rfl | (go_simp; done) | (simp [Region.wanted, yielded]; done))); (focus (intro w; go_simp; with_reducible rfl)); go_simp)
            (apply SeqL.pure; (focus (first | rfl | (go_simp; done) | (simp [Region.wanted, yielded]; done))); (focus (intro w; go_simp; with_reducible rfl)); go_simp)
            (apply SeqL.pure; (focus (first | rfl | (go_simp; done) | (simp [Region.wanted, yielded]; done))); (focus (intro w; go_simp; with_reducible rfl)); go_simp)
            refine SeqL.done fun w8 hbb => ?_
            have hhh := hbb.2
            replace hbb := hbb.1
            have HBo8 := Lib.hid (HBo7.out.same hbb)
            have cA8 := (cell_heap hhh ⟨T, off, none⟩).trans cA7
            have cu8 := (cell_heap hhh ⟨g, i, none⟩).trans hcu
            have p28 := (cell_heap hhh ⟨Ob, 2, none⟩).trans p2
            have HV8 := Lib.hid (HV.out.below hbb)
            have HBU8 := Lib.hid (HBU.out.below hbb)
            clear hbb hhh cA7 hcu p2 HBo7 HV HBU A7
            go_wp2_with fail
            refine wp_region_text (fun W => Below w8.heap.size w8 W ∧ W.heap = w8.heap) (by kernel_rfl) (by kernel_rfl) ⟨bl_drew (Below.refl _ _), rfl⟩ ?_
            (apply SeqL.pure; (focus (first | rfl | (go_simp; done) | (simp [Region.wanted, yielded]; done))); (focus (intro w; go_simp; with_reducible rfl)); go_simp)
            (apply SeqL.pure; (focus (first | rfl | (go_simp; done) | (simp [Region.wanted, yielded]; done))); (focus (intro w; go_simp; with_reducible rfl)); go_simp)
            (apply SeqL.pure; (focus (first | rfl | (go_simp; done) | (simp [Region.wanted, yielded]; done))); (focus (intro w; go_simp; with_reducible rfl)); go_simp)
            (apply SeqL.pure; (focus (first | rfl | (go_simp; done) | (simp [Region.wanted, yielded]; done))); (focus (intro w; go_simp; with_reducible rfl)); go_simp)
            (apply SeqL.pure; (focus (first | rfl | (go_simp; done) | (simp [Region.wanted, yielded]; done))); (focus (intro w; go_simp; with_reducible rfl)); go_simp)
            (apply SeqL.pure; (focus (first | rfl | (go_simp; done) | (simp [Region.wanted, yielded]; done))); (focus (intro w; go_simp; with_reducible rfl)); go_simp)
            (apply SeqL.pure; (focus (first | rfl | (go_simp; done) | (simp [Region.wanted, yielded]; done))); (focus (intro w; go_simp; with_reducible rfl)); go_simp)
            (apply SeqL.pure; (focus (first | rfl | (go_simp; done) | (simp [Region.wanted, yielded]; done))); (focus (intro w; go_simp; with_reducible rfl)); go_simp)
            (apply SeqL.pure; (focus (first | rfl | (go_simp; done) | (simp [Region.wanted, yielded]; done))); (focus (intro w; go_simp; with_reducible rfl)); go_simp)
            (apply SeqL.pure; (focus (first | rfl | (go_simp; done) | (simp [Region.wanted, yielded]; done))); (focus (intro w; go_simp; with_reducible rfl)); go_simp)
            (apply SeqL.read; (focus (first | rfl | (go_simp; done) | (simp [Region.wanted, yielded]; done))); (focus (intro W hF; have x0 := (cell_heap hF.2 _).trans cA8; go_simp; with_reducible rfl)); go_simp)
            (apply SeqL.pure; (focus (first | rfl | (go_simp; done) | (simp [Region.wanted, yielded]; done))); (focus (intro w; go_simp; with_reducible rfl)); go_simp)
            (apply SeqL.read; (focus (first | rfl | (go_simp; done) | (simp [Region.wanted, yielded]; done))); (focus (intro W hF; have x0 := (cell_heap hF.2 _).trans p28; go_simp; with_reducible rfl)); go_simp)
            (apply SeqL.pure; (focus (first | rfl | (go_simp; done) | (simp [Region.wanted, yielded]; done))); (focus (intro w; go_simp; with_reducible rfl)); go_simp)
            (apply SeqL.read; (focus (first | rfl | (go_simp; done) | (simp [Region.wanted, yielded]; done))); (focus (intro W hF; have x0 := (cell_heap hF.2 _).trans cu8; go_simp; with_reducible rfl)); go_simp)
            refine SeqL.call (.bool true) 11 #[v, u] ?_ (fun w => by kernel_rfl) (fun W hW => (same_bytes v u _ _ W (HV8.out.keep (w1 := W) fun _ _ _ _ => by rw [hW.2]) (HBU8.out.keep (w1 := W) fun _ _ _ _ => by rw [hW.2])).mono fun e w' h => ⟨by rw [h.1, decide_eq_true rfl], by rw [← h.2]; exact hW⟩) ?_
            · (first | rfl | (go_simp; done) | (simp [Region.wanted, yielded]; done))
            go_simp
            (apply SeqL.pure; (focus (first | rfl | (go_simp; done) | (simp [Region.wanted, yielded]; done))); (focus (intro w; go_simp; with_reducible rfl)); go_simp)
            (apply SeqL.pure; (focus (first | rfl | (go_simp; done) | (simp [Region.wanted, yielded]; done))); (focus (intro w; go_simp; with_reducible rfl)); go_simp)
            (apply SeqL.pure; (focus (first | rfl | (go_simp; done) | (simp [Region.wanted, yielded]; done))); (focus (intro w; go_simp; with_reducible rfl)); go_simp)
            (apply SeqL.pure; (focus (first | rfl | (go_simp; done) | (simp [Region.wanted, yielded]; done))); (focus (intro w; go_simp; with_reducible rfl)); go_simp)
            (apply SeqL.pure; (focus (first | rfl | (go_simp; done) | (simp [Region.wanted, yielded]; done))); (focus (intro w; go_simp; with_reducible rfl)); go_simp)
            (apply SeqL.pure; (focus (first | rfl | (go_simp; done) | (simp [Region.wanted, yielded]; done))); (focus (intro w; go_simp; with_reducible rfl)); go_simp)
            (apply SeqL.pure; (focus (first | rfl | (go_simp; done) | (simp [Region.wanted, yielded]; done))); (focus (intro w; go_simp; with_reducible rfl)); go_simp)
            (apply SeqL.skip; (focus (first | rfl | (go_simp; done) | (simp [Region.wanted, yielded]; done))); go_simp)
            (apply SeqL.skip; (focus (first | rfl | (go_simp; done) | (simp [Region.wanted, yielded]; done))); go_simp)
            (apply SeqL.skip; (focus (first | rfl | (go_simp; done) | (simp [Region.wanted, yielded]; done))); go_simp)
            (apply SeqL.pure; (focus (first | rfl | (go_simp; done) | (simp [Region.wanted, yielded]; done))); (focus (intro w; go_simp; with_reducible rfl)); go_simp)
            (apply SeqL.pure; (focus (first | rfl | (go_simp; done) | (simp [Region.wanted, yielded]; done))); (focus (intro w; go_simp; with_reducible rfl)); go_simp)
            refine SeqL.done fun w9 hbb => ?_
            replace hbb := hbb.1
            have HBo9 := Lib.hid (HBo8.out.same hbb)
            clear hbb
            go_wp2_with fail
            go_roundw
            case rel => exact ⟨k + 1, lab6, s, by omega, by go_num, HBo9.out, by have h := HTO.out; have h2 := HTK.out; show _ ≤ _; omega⟩
            case measure => simp [intOf] <;> omega
          · rw [if_neg (by omega)] at h7
            subst h7
            have hc3 : ¬ m < (((s.half sd).length : Nat) : Int) := by omega
            clear hb7 hr7 HBo6 A0 o0 o1 o2 o3
            generalize (s.half sd).length = ln at *
            go_wp2_with fail
            refine wp_region_text (fun W => Below w7.heap.size w7 W ∧ W.heap = w7.heap) (by kernel_rfl) (by kernel_rfl) ⟨bl_drew (Below.refl _ _), rfl⟩ ?_
            (apply SeqL.pure; (focus (first | rfl | (go_simp; done) | (simp [Region.wanted, yielded]; done))); (focus (intro w; go_simp; with_reducible rfl)); go_simp)
            (apply SeqL.pure; (focus (first | rfl | (go_simp; done) | (simp [Region.wanted, yielded]; done))); (focus (intro w; go_simp; with_reducible rfl)); go_simp)
            (apply SeqL.pure; (focus (first | rfl | (go_simp; done) | (simp [Region.wanted, yielded]; done))); (focus (intro w; go_simp; with_reducible rfl)); go_simp)
            (apply SeqL.read; (focus (first | rfl | (go_simp; done) | (simp [Region.wanted, yielded]; done))); (focus (intro W hF; have x0 := (cell_heap hF.2 _).trans p2; go_simp; with_reducible rfl)); go_simp)
            (apply SeqL.pure; (focus (first | rfl | (go_simp; done) | (simp [Region.wanted, yielded]; done))); (focus (intro w; go_simp; with_reducible rfl)); go_simp)
            (apply SeqL.pure; (focus (first | rfl | (go_simp; done) | (simp [Region.wanted, yielded]; done))); (focus (intro w; go_simp; with_reducible rfl)); go_simp)
            (apply SeqL.pure; (focus (first | rfl | (go_simp; done) | (simp [Region.wanted, yielded]; done))); (focus (intro w; go_simp; with_reducible rfl)); go_simp)
            (apply SeqL.pure; (focus (first | rfl | (go_simp; done) | (simp [Region.wanted, yielded]; done))); (focus (intro w; go_simp; with_reducible rfl)); go_simp)
            (apply SeqL.read; (focus (first | rfl | (go_simp; done) | (simp [Region.wanted, yielded]; done))); (focus (intro W hF; have x0 := (cell_heap hF.2 _).trans p2; go_simp; with_reducible rfl)); go_simp)
            (apply SeqL.pure; (focus (first | rfl | (go_simp; done) | (simp [Region.wanted, yielded]; done))); (focus (intro w; go_simp; with_reducible rfl)); go_simp)
            (apply SeqL.pure; (focus (first | rfl | (go_simp; done) | (simp [Region.wanted, yielded]; done))); (focus (intro w; go_simp; with_reducible rfl)); go_simp)
            (apply SeqL.pure; (focus (first | rfl | (go_simp; done) | (simp [Region.wanted, yielded]; done))); (focus (intro w; go_simp; with_reducible rfl)); go_simp)
            (apply SeqL.read; (focus (first | rfl | (go_simp; done) | (simp [Region.wanted, yielded]; done))); (focus (intro W hF; have x0 := (cell_heap hF.2 _).trans cA7; go_simp; with_reducible rfl)); go_simp)
            (apply SeqL.pure; (focus (first | rfl | (go_simp; done) | (simp [Region.wanted, yielded]; done))); (focus (intro w; go_simp; with_reducible rfl)); go_simp)
            (apply SeqL.pure; (focus (first | rfl | (go_simp; done) | (simp [Region.wanted, yielded]; done))); (focus (intro w; go_simp; with_reducible rfl)); go_simp)
            (apply SeqL.pure; (focus (first | rfl | (go_simp; done) | (simp [Region.wanted, yielded]; done))); (focus (intro w; go_simp; with_reducible rfl)); go_simp)
            (apply SeqL.pure; (focus (first | rfl | (go_simp; done) | (simp [Region.wanted, yielded]; done))); (focus (intro w; go_simp; with_reducible rfl)); go_simp)
            refine SeqL.done fun w8 hbb => ?_
            have hhh := hbb.2
            replace hbb := hbb.1
            have HBo8 := Lib.hid (HBo7.out.same hbb)
            clear hbb hhh
            (try simp only [show decide (m < (ln : Int)) = false from decide_eq_false (by omega)])
            (try simp only [if_neg (show ¬ m < (ln : Int) by omega)])
            go_wp2_with fail
            (try simp only [show decide (m < (ln : Int)) = false from decide_eq_false (by omega)])
            (try simp only [if_neg (show ¬ m < (ln : Int) by omega)])
            refine wp_region_text (fun W => Below w8.heap.size w8 W ∧ W.heap = w8.heap) (by kernel_rfl) (by kernel_rfl) ⟨bl_drew (Below.refl _ _), rfl⟩ ?_
            (apply SeqL.pure; (focus (first | rfl | (go_simp; done) | (simp [Region.wanted, yielded]; done))); (focus (intro w; go_simp; with_reducible rfl)); go_simp)
            (apply SeqL.pure; (focus (first | rfl | (go_simp; done) | (simp [Region.wanted, yielded]; done))); (focus (intro w; go_simp; with_reducible rfl)); go_simp)
            (apply SeqL.pure; (focus (first | rfl | (go_simp; done) | (simp [Region.wanted, yielded]; done))); (focus (intro w; go_simp; with_reducible rfl)); go_simp)
            (apply SeqL.pure; (focus (first | rfl | (go_simp; done) | (simp [Region.wanted, yielded]; done))); (focus (intro w; go_simp; with_reducible rfl)); go_simp)
            (apply SeqL.pure; (focus (first | rfl | (go_simp; done) | (simp [Region.wanted, yielded]; done))); (focus (intro w; go_simp; with_reducible rfl)); go_simp)
            (apply SeqL.pure; (focus (first | rfl | (go_simp; done) | (simp [Region.wanted, yielded]; done))); (focus (intro w; go_simp; with_reducible rfl)); go_simp)
            (apply SeqL.skip; (focus (first | rfl | (go_simp; done) | (simp [Region.wanted, yielded]; done))); go_simp)
            (apply SeqL.skip; (focus (first | rfl | (go_simp; done) | (simp [Region.wanted, yielded]; done))); go_simp)
            (apply SeqL.skip; (focus (first | rfl | (go_simp; done) | (simp [Region.wanted, yielded]; done))); go_simp)
            (apply SeqL.skip; (focus (first | rfl | (go_simp; done) | (simp [Region.wanted, yielded]; done))); go_simp)
            (apply SeqL.skip; (focus (first | rfl | (go_simp; done) | (simp [Region.wanted, yielded]; done))); go_simp)
            (apply SeqL.skip; (focus (first | rfl | (go_simp; done) | (simp [Region.wanted, yielded]; done))); go_simp)
            (apply SeqL.skip; (focus (first | rfl | (go_simp; done) | (simp [Region.wanted, yielded]; done))); go_simp)
            (apply SeqL.skip; (focus (first | rfl | (go_simp; done) | (simp [Region.wanted, yielded]; done))); go_simp)
            (apply SeqL.skip; (focus (first | rfl | (go_simp; done) | (simp [Region.wanted, yielded]; done))); go_simp)
            (apply SeqL.skip; (focus (first | rfl | (go_simp; done) | (simp [Region.wanted, yielded]; done))); go_simp)
            (apply SeqL.skip; (focus (first | rfl | (go_simp; done) | (simp [Region.wanted, yielded]; done))); go_simp)
            (apply SeqL.pure; (focus (first | rfl | (go_simp; done) | (simp [Region.wanted, yielded]; done))); (focus (intro w; go_simp; with_reducible rfl)); go_simp)
            (apply SeqL.pure; (focus (first | rfl | (go_simp; done) | (simp [Region.wanted, yielded]; done))); (focus (intro w; go_simp; with_reducible rfl)); go_simp)
            (apply SeqL.pure; (focus (first | rfl | (go_simp; done) | (simp [Region.wanted, yielded]; done))); (focus (intro w; go_simp; with_reducible rfl)); go_simp)
            (apply SeqL.pure; (focus (first | rfl | (go_simp; done) | (simp [Region.wanted, yielded]; done))); (focus (intro w; go_simp; with_reducible rfl)); go_simp)
            (apply SeqL.pure; (focus (first | rfl | (go_simp; done) | (simp [Region.wanted, yielded]; done))); (focus (intro w; go_simp; with_reducible rfl)); go_simp)
            (apply SeqL.pure; (focus (first | rfl | (go_simp; done) | (simp [Region.wanted, yielded]; done))); (focus (intro w; go_simp; with_reducible rfl)); go_simp)
            (apply SeqL.pure; (focus (first | rfl | (go_simp; done) | (simp [Region.wanted, yielded]; done))); (focus (intro w; go_simp; with_reducible rfl)); go_simp)
            (apply SeqL.pure; (focus (first | rfl | (go_simp; done) | (simp [Region.wanted, yielded]; done))); (focus (intro w; go_simp; with_reducible rfl)); go_simp)
            (apply SeqL.pure; (focus (first | rfl | (go_simp; done) | (simp [Region.wanted, yielded]; done))); (focus (intro w; go_simp; with_reducible rfl)); go_simp)
            (apply SeqL.pure; (focus (first | rfl | (go_simp; done) | (simp [Region.wanted, yielded]; done))); (focus (intro w; go_simp; with_reducible rfl)); go_simp)
            (apply SeqL.pure; (focus (first | rfl | (go_simp; done) | (simp [Region.wanted, yielded]; done))); (focus (intro w; go_simp; with_reducible rfl)); go_simp)
            refine SeqL.done fun w9 hbb => ?_
            have hhh := hbb.2
            replace hbb := hbb.1
            have HBo9 := Lib.hid (HBo8.out.same hbb)
            clear hbb hhh
            go_wp2_with fail
            go_roundw
            case rel => exact ⟨k + 1, lab6, s, by omega, by go_num, HBo9.out, by have h := HTO.out; have h2 := HTK.out; show _ ≤ _; omega⟩
            case measure => simp [intOf] <;> omega
        · as_aux_lemma =>
          go_wp2_with fail
          refine (lose_any lab6 N s sd m hnu w6 HBo6.out.net hsd).mono ?_
          rintro e w7 ⟨rfl, hn7, hg7, hz7⟩
          have hnn := net_next HBo6.out.net HS.out
          have HBo7 := Lib.hid (HBo6.out.turn (fun _ _ => rfl) hn7 (fr_of_grown HBo6.out hg7))
          have A7 : w7.heap[Ob]? = some (.cells #[.int .u8 3, .int .u8 sd, .int .i64 m, .slice UA K.length uc] 45) := ((fr_of_grown HBo6.out hg7).block Ob (lt_of_heap A0.out) (.inl hO0)).trans A0.out
          have p2 : w7.cell? ⟨Ob, 2, none⟩ = some (.int .i64 m) := (cell_of_row w7 Ob 2 _ _ (0, 0) A7).trans rfl
          clear hn7 hg7 hz7 A0 o0 o1 o2 o3 A7 HBo6
          obtain ⟨A7, cp7, tr7, cA7, cB7, fB7, htr7, hr7⟩ := HBo7.out.ref.half HS.out
          rw [HOF.out] at cA7 cB7 fB7
          have hm7 := half_len hr7
          unfold maxLen at hm7
          have hTl : T < w7.heap.size := HBo7.out.ref.lt
          have hX2 := (ns_len s HS.out [] (s.next sd + (max 0 (min m ((((s.half sd).length : Nat) : Int) - ((s.next sd : Nat) : Int)))).toNat)).2
          rcases (by omega : m ≤ 0 ∨ (0 < m ∧ m ≤ (((s.half sd).length : Nat) : Int) - ((s.next sd : Nat) : Int)) ∨ (0 < m ∧ (((s.half sd).length : Nat) : Int) - ((s.next sd : Nat) : Int) < m)) with hc | ⟨hc, hc2⟩ | ⟨hc, hc2⟩
          · have e7 : max (0 : Int) (min m ((((s.half sd).length : Nat) : Int) - ((s.next sd : Nat) : Int))) = 0 := by omega
            have es := (ns_half s HS.out [] 0).2.2.2.2.2
            rw [e7] at HBo7 ⊢
            rw [show s.next sd + (0 : Int).toNat = s.next sd from rfl, es] at HBo7
            go_wp2_with fail
            go_roundw
            case rel => exact ⟨k + 1, lab6, s, by omega, by go_num, HBo7.out, by have h := HTO.out; have h2 := HTK.out; show _ ≤ _; omega⟩
            case measure => simp [intOf] <;> omega
          · have hR := HBo7.out.ref.setNext HS.out (s.next sd + (max 0 (min m ((((s.half sd).length : Nat) : Int) - ((s.next sd : Nat) : Int)))).toNat)
            rw [HOF.out] at hR
            obtain ⟨q, hq⟩ : ∃ q : Nat, max (0 : Int) (min m ((((s.half sd).length : Nat) : Int) - ((s.next sd : Nat) : Int))) = (q : Int) := ⟨(max (0 : Int) (min m ((((s.half sd).length : Nat) : Int) - ((s.next sd : Nat) : Int)))).toNat, by omega⟩
            have hq2 : (max (0 : Int) (min m ((((s.half sd).length : Nat) : Int) - ((s.next sd : Nat) : Int)))).toNat = q := by omega
            have hw : m = (q : Int) := by omega
            rw [hq2] at hR HBo7 hX2
            rw [hq]
            have w63 : IntKind.i64.wrap ((((s.half sd).length : Nat) : Int) - ((s.next sd : Nat) : Int)) = (((s.half sd).length : Nat) : Int) - ((s.next sd : Nat) : Int) := IntWalk.i64_in _ (by omega)
            have w64 : IntKind.i64.wrap (((s.next sd : Nat) : Int) + (q : Int)) = ((s.next sd : Nat) : Int) + (q : Int) := IntWalk.i64_in _ (by omega)
            clear hq hq2
            obtain ⟨nx, hnx⟩ : ∃ nx, s.next sd = nx := ⟨_, rfl⟩
            obtain ⟨ln, hLn⟩ : ∃ ln, (s.half sd).length = ln := ⟨_, rfl⟩
            simp only [hnx, hLn] at *
            clear hnx hLn hr7
            go_wp2_with fail
            refine wp_region_text (fun W => Below w7.heap.size w7 W ∧ W.heap = w7.heap) (by kernel_rfl) (by kernel_rfl) ⟨bl_drew (Below.refl _ _), rfl⟩ ?_
            (apply SeqL.pure; (focus (first | rfl | (go_simp; done) | (simp [Region.wanted, yielded]; done))); (focus (intro w; go_simp; with_reducible rfl)); go_simp)
            (apply SeqL.read; (focus (first | rfl | (go_simp; done) | (simp [Region.wanted, yielded]; done))); (focus (intro W hF; have x0 := (cell_heap hF.2 _).trans p2; go_simp; with_reducible rfl)); go_simp)
            (apply SeqL.pure; (focus (first | rfl | (go_simp; done) | (simp [Region.wanted, yielded]; done))); (focus (intro w; go_simp; with_reducible rfl)); go_simp)
            (apply SeqL.pure; (focus (first | rfl | (go_simp; done) | (simp [Region.wanted, yielded]; done))); (focus (intro w; go_simp; with_reducible rfl)); go_simp)
            (apply SeqL.pure; (focus (first | rfl | (go_simp; done) | (simp [Region.wanted, yielded]; done))); (focus (intro w; go_simp; with_reducible rfl)); go_simp)
            (apply SeqL.read; (focus (first | rfl | (go_simp; done) | (simp [Region.wanted, yielded]; done))); (focus (intro W hF; have x0 := (cell_heap hF.2 _).trans cA7; go_simp; with_reducible rfl)); go_simp)
            (apply SeqL.pure; (focus (first | rfl | (go_simp; done) | (simp [Region.wanted, yielded]; done))); (focus (intro w; go_simp; with_reducible rfl)); go_simp)
            (apply SeqL.pure; (focus (first | rfl | (go_simp; done) | (simp [Region.wanted, yielded]; done))); (focus (intro w; go_simp; with_reducible rfl)); go_simp)
            (apply SeqL.pure; (focus (first | rfl | (go_simp; done) | (simp [Region.wanted, yielded]; done))); (focus (intro w; go_simp; with_reducible rfl)); go_simp)
            (apply SeqL.pure; (focus (first | rfl | (go_simp; done) | (simp [Region.wanted, yielded]; done))); (focus (intro w; go_simp; with_reducible rfl)); go_simp)
            (apply SeqL.read; (focus (first | rfl | (go_simp; done) | (simp [Region.wanted, yielded]; done))); (focus (intro W hF; have x0 := (cell_heap hF.2 _).trans cB7; go_simp; with_reducible rfl)); go_simp)
            (apply SeqL.pure; (focus (first | rfl | (go_simp; done) | (simp [Region.wanted, yielded]; done))); (focus (intro w; go_simp; with_reducible rfl)); go_simp)
            (apply SeqL.pure; (focus (first | rfl | (go_simp; done) | (simp [Region.wanted, yielded]; done))); (focus (intro w; go_simp; with_reducible rfl)); go_simp)
            (apply SeqL.pure; (focus (first | rfl | (go_simp; done) | (simp [Region.wanted, yielded]; done))); (focus (intro w; go_simp; with_reducible rfl)); go_simp)
            refine SeqL.done fun w8 hbb => ?_
            have hhh := hbb.2
            replace hbb := hbb.1
            have HBo8 := Lib.hid (HBo7.out.same hbb)
            have cB8 := (cell_heap hhh ⟨T, off + 1, none⟩).trans cB7
            have fB8 := (frozen_heap hhh ⟨T, off + 1, none⟩).trans fB7
            have hTl8 : T < w8.heap.size := by rw [hhh]; exact hTl
            have hR9 := HBo8.out.ref.setNext HS.out (nx + q)
            rw [HOF.out] at hR9
            have HBo9 : Hid (Both w N T lab6 (s.to sd (nx + q)) (s.to sd (nx + q)) (w8.setCell ⟨T, off + 1, none⟩ (.int .i64 ((nx + q : Nat) : Int)))) := HBo8.out.turnR (fun _ _ => rfl) hR9 rfl rfl rfl (by simp) (fun z hz hl => heap_setCell_other w8 _ z _ (fun e => by
              obtain ⟨_, _, l6, _⟩ := HBo8.out.ref
              have l6 : lab6 T = 6 := l6
              have e : z = T := e
              rw [e, l6] at hl
              omega))
            have e9 : (((nx + q : Nat)) : Int) = (nx : Int) + (q : Int) := by omega
            rw [e9] at HBo9
            clear hbb hhh HBo7 cA7 cB7 fB7 hR9 HBo8 p2 hR
            go_wp2_with fail
            go_roundw
            case rel => exact ⟨k + 1, lab6, (s.to sd (nx + q)), by omega, by go_num, HBo9.out, by have h := HTO.out; have h2 := HTK.out; have h3 := hX2; show _ ≤ _; omega⟩
            case measure => simp [intOf] <;> omega
          · have hR := HBo7.out.ref.setNext HS.out (s.next sd + (max 0 (min m ((((s.half sd).length : Nat) : Int) - ((s.next sd : Nat) : Int)))).toNat)
            rw [HOF.out] at hR
            obtain ⟨q, hq⟩ : ∃ q : Nat, max (0 : Int) (min m ((((s.half sd).length : Nat) : Int) - ((s.next sd : Nat) : Int))) = (q : Int) := ⟨(max (0 : Int) (min m ((((s.half sd).length : Nat) : Int) - ((s.next sd : Nat) : Int)))).toNat, by omega⟩
            have hq2 : (max (0 : Int) (min m ((((s.half sd).length : Nat) : Int) - ((s.next sd : Nat) : Int)))).toNat = q := by omega
            have hw : (((s.half sd).length : Nat) : Int) - ((s.next sd : Nat) : Int) = (q : Int) := by omega
            rw [hq2] at hR HBo7 hX2
            rw [hq]
            have w63 : IntKind.i64.wrap ((((s.half sd).length : Nat) : Int) - ((s.next sd : Nat) : Int)) = (((s.half sd).length : Nat) : Int) - ((s.next sd : Nat) : Int) := IntWalk.i64_in _ (by omega)
            have w64 : IntKind.i64.wrap (((s.next sd : Nat) : Int) + (q : Int)) = ((s.next sd : Nat) : Int) + (q : Int) := IntWalk.i64_in _ (by omega)
            clear hq hq2
            obtain ⟨nx, hnx⟩ : ∃ nx, s.next sd = nx := ⟨_, rfl⟩
            obtain ⟨ln, hLn⟩ : ∃ ln, (s.half sd).length = ln := ⟨_, rfl⟩
            simp only [hnx, hLn] at *
            clear hnx hLn hr7
            go_wp2_with fail
            refine wp_region_text (fun W => Below w7.heap.size w7 W ∧ W.heap = w7.heap) (by kernel_rfl) (by kernel_rfl) ⟨bl_drew (Below.refl _ _), rfl⟩ ?_
            (apply SeqL.pure; (focus (first | rfl | (go_simp; done) | (simp [Region.wanted, yielded]; done))); (focus (intro w; go_simp; with_reducible rfl)); go_simp)
            (apply SeqL.read; (focus (first | rfl | (go_simp; done) | (simp [Region.wanted, yielded]; done))); (focus (intro W hF; have x0 := (cell_heap hF.2 _).trans p2; go_simp; with_reducible rfl)); go_simp)
            (apply SeqL.pure; (focus (first | rfl | (go_simp; done) | (simp [Region.wanted, yielded]; done))); (focus (intro w; go_simp; with_reducible rfl)); go_simp)
            (apply SeqL.pure; (focus (first | rfl | (go_simp; done) | (simp [Region.wanted, yielded]; done))); (focus (intro w; go_simp; with_reducible rfl)); go_simp)
            (apply SeqL.pure; (focus (first | rfl | (go_simp; done) | (simp [Region.wanted, yielded]; done))); (focus (intro w; go_simp; with_reducible rfl)); go_simp)
            (apply SeqL.read; (focus (first | rfl | (go_simp; done) | (simp [Region.wanted, yielded]; done))); (focus (intro W hF; have x0 := (cell_heap hF.2 _).trans cA7; go_simp; with_reducible rfl)); go_simp)
            (apply SeqL.pure; (focus (first | rfl | (go_simp; done) | (simp [Region.wanted, yielded]; done))); (focus (intro w; go_simp; with_reducible rfl)); go_simp)
            (apply SeqL.pure; (focus (first | rfl | (go_simp; done) | (simp [Region.wanted, yielded]; done))); (focus (intro w; go_simp; with_reducible rfl)); go_simp)
            (apply SeqL.pure; (focus (first | rfl | (go_simp; done) | (simp [Region.wanted, yielded]; done))); (focus (intro w; go_simp; with_reducible rfl)); go_simp)
            (apply SeqL.pure; (focus (first | rfl | (go_simp; done) | (simp [Region.wanted, yielded]; done))); (focus (intro w; go_simp; with_reducible rfl)); go_simp)
            (apply SeqL.read; (focus (first | rfl | (go_simp; done) | (simp [Region.wanted, yielded]; done))); (focus (intro W hF; have x0 := (cell_heap hF.2 _).trans cB7; go_simp; with_reducible rfl)); go_simp)
            (apply SeqL.pure; (focus (first | rfl | (go_simp; done) | (simp [Region.wanted, yielded]; done))); (focus (intro w; go_simp; with_reducible rfl)); go_simp)
            (apply SeqL.pure; (focus (first | rfl | (go_simp; done) | (simp [Region.wanted, yielded]; done))); (focus (intro w; go_simp; with_reducible rfl)); go_simp)
            (apply SeqL.pure; (focus (first | rfl | (go_simp; done) | (simp [Region.wanted, yielded]; done))); (focus (intro w; go_simp; with_reducible rfl)); go_simp)
            refine SeqL.done fun w8 hbb => ?_
            have hhh := hbb.2
            replace hbb := hbb.1
            have HBo8 := Lib.hid (HBo7.out.same hbb)
            have cB8 := (cell_heap hhh ⟨T, off + 1, none⟩).trans cB7
            have fB8 := (frozen_heap hhh ⟨T, off + 1, none⟩).trans fB7
            have hTl8 : T < w8.heap.size := by rw [hhh]; exact hTl
            have hR9 := HBo8.out.ref.setNext HS.out (nx + q)
            rw [HOF.out] at hR9
            have HBo9 : Hid (Both w N T lab6 (s.to sd (nx + q)) (s.to sd (nx + q)) (w8.setCell ⟨T, off + 1, none⟩ (.int .i64 ((nx + q : Nat) : Int)))) := HBo8.out.turnR (fun _ _ => rfl) hR9 rfl rfl rfl (by simp) (fun z hz hl => heap_setCell_other w8 _ z _ (fun e => by
              obtain ⟨_, _, l6, _⟩ := HBo8.out.ref
              have l6 : lab6 T = 6 := l6
              have e : z = T := e
              rw [e, l6] at hl
              omega))
            have e9 : (((nx + q : Nat)) : Int) = (nx : Int) + (q : Int) := by omega
            rw [e9] at HBo9
            clear hbb hhh HBo7 cA7 cB7 fB7 hR9 HBo8 p2 hR
            go_wp2_with fail
            go_roundw
            case rel => exact ⟨k + 1, lab6, (s.to sd (nx + q)), by omega, by go_num, HBo9.out, by have h := HTO.out; have h2 := HTK.out; have h3 := hX2; show _ ≤ _; omega⟩
            case measure => simp [intOf] <;> omega
        · as_aux_lemma =>
          go_wp2_with fail
          refine (counts_any lab6 N s sd w6 HBo6.out.net hsd).mono ?_
          rintro e w7 ⟨rfl, hb7, hh7⟩
          have hnn := net_next HBo6.out.net HS.out
          have HBo7 := Lib.hid (HBo6.out.same hb7)
          have AH7 : Hid (w7.heap[Ob]? = some (.cells #[.int .u8 4, .int .u8 sd, .int .i64 m, .slice UA K.length uc] 45)) := (hb7.block Ob (lt_of_heap A0.out)).trans A0.out
          clear hb7 hh7 A0 o0 o1 o2 o3 HBo6
          obtain ⟨A7, cp7, tr7, cA7, cB7, fB7, htr7, hr7⟩ := HBo7.out.ref.half HS.out
          rw [HOF.out] at cA7 cB7 fB7
          have hm7 := half_len hr7
          unfold maxLen at hm7
          clear hr7
          have HMM : Hid (∀ xs, s.mem sd xs = decide (xs ∈ s.half sd)) := fun xs => ns_mem s HS.out xs
          obtain ⟨nx, hnx⟩ : ∃ nx, s.next sd = nx := ⟨_, rfl⟩
          obtain ⟨ln, hLn⟩ : ∃ ln, (s.half sd).length = ln := ⟨_, rfl⟩
          rw [hnx, hLn]
          rw [hLn] at cA7 hm7
          rw [hnx] at cB7
          rw [hLn, hnx] at hnn
          clear hnx hLn
          have w63 : IntKind.i64.wrap ((ln : Int) - (nx : Int)) = (ln : Int) - (nx : Int) := IntWalk.i64_in _ (by omega)
          go_wp2_with fail
          refine wp_region_text (fun W => Below w7.heap.size w7 W ∧ W.heap = w7.heap) (by kernel_rfl) (by kernel_rfl) ⟨bl_drew (Below.refl _ _), rfl⟩ ?_
          (apply SeqL.pure; (focus (first | rfl | (go_simp; done) | (simp [Region.wanted, yielded]; done))); (focus (intro w; go_simp; with_reducible rfl)); go_simp)
          (apply SeqL.pure; (focus (first | rfl | (go_simp; done) | (simp [Region.wanted, yielded]; done))); (focus (intro w; go_simp; with_reducible rfl)); go_simp)
          (apply SeqL.pure; (focus (first | rfl | (go_simp; done) | (simp [Region.wanted, yielded]; done))); (focus (intro w; go_simp; with_reducible rfl)); go_simp)
          (apply SeqL.pure; (focus (first | rfl | (go_simp; done) | (simp [Region.wanted, yielded]; done))); (focus (intro w; go_simp; with_reducible rfl)); go_simp)
          (apply SeqL.pure; (focus (first | rfl | (go_simp; done) | (simp [Region.wanted, yielded]; done))); (focus (intro w; go_simp; with_reducible rfl)); go_simp)
          (apply SeqL.pure; (focus (first | rfl | (go_simp; done) | (simp [Region.wanted, yielded]; done))); (focus (intro w; go_simp; with_reducible rfl)); go_simp)
          (apply SeqL.read; (focus (first | rfl | (go_simp; done) | (simp [Region.wanted, yielded]; done))); (focus (intro W hF; have x0 := (cell_heap hF.2 _).trans cA7; go_simp; with_reducible rfl)); go_simp)
          (apply SeqL.pure; (focus (first | rfl | (go_simp; done) | (simp [Region.wanted, yielded]; done))); (focus (intro w; go_simp; with_reducible rfl)); go_simp)
          (apply SeqL.pure; (focus (first | rfl | (go_simp; done) | (simp [Region.wanted, yielded]; done))); (focus (intro w; go_simp; with_reducible rfl)); go_simp)
          (apply SeqL.pure; (focus (first | rfl | (go_simp; done) | (simp [Region.wanted, yielded]; done))); (focus (intro w; go_simp; with_reducible rfl)); go_simp)
          (apply SeqL.pure; (focus (first | rfl | (go_simp; done) | (simp [Region.wanted, yielded]; done))); (focus (intro w; go_simp; with_reducible rfl)); go_simp)
          (apply SeqL.pure; (focus (first | rfl | (go_simp; done) | (simp [Region.wanted, yielded]; done))); (focus (intro w; go_simp; with_reducible rfl)); go_simp)
          (apply SeqL.pure; (focus (first | rfl | (go_simp; done) | (simp [Region.wanted, yielded]; done))); (focus (intro w; go_simp; with_reducible rfl)); go_simp)
          (apply SeqL.pure; (focus (first | rfl | (go_simp; done) | (simp [Region.wanted, yielded]; done))); (focus (intro w; go_simp; with_reducible rfl)); go_simp)
          (apply SeqL.read; (focus (first | rfl | (go_simp; done) | (simp [Region.wanted, yielded]; done))); (focus (intro W hF; have x0 := (cell_heap hF.2 _).trans cA7; go_simp; with_reducible rfl)); go_simp)
          (apply SeqL.pure; (focus (first | rfl | (go_simp; done) | (simp [Region.wanted, yielded]; done))); (focus (intro w; go_simp; with_reducible rfl)); go_simp)
          (apply SeqL.pure; (focus (first | rfl | (go_simp; done) | (simp [Region.wanted, yielded]; done))); (focus (intro w; go_simp; with_reducible rfl)); go_simp)
          (apply SeqL.pure; (focus (first | rfl | (go_simp; done) | (simp [Region.wanted, yielded]; done))); (focus (intro w; go_simp; with_reducible rfl)); go_simp)
          (apply SeqL.pure; (focus (first | rfl | (go_simp; done) | (simp [Region.wanted, yielded]; done))); (focus (intro w; go_simp; with_reducible rfl)); go_simp)
          (apply SeqL.read; (focus (first | rfl | (go_simp; done) | (simp [Region.wanted, yielded]; done))); (focus (intro W hF; have x0 := (cell_heap hF.2 _).trans cB7; go_simp; with_reducible rfl)); go_simp)
          (apply SeqL.pure; (focus (first | rfl | (go_simp; done) | (simp [Region.wanted, yielded]; done))); (focus (intro w; go_simp; with_reducible rfl)); go_simp)
          (apply SeqL.pure; (focus (first | rfl | (go_simp; done) | (simp [Region.wanted, yielded]; done))); (focus (intro w; go_simp; with_reducible rfl)); go_simp)
          (apply SeqL.pure; (focus (first | rfl | (go_simp; done) | (simp [Region.wanted, yielded]; done))); (focus (intro w; go_simp; with_reducible rfl)); go_simp)
          (apply SeqL.pure; (focus (first | rfl | (go_simp; done) | (simp [Region.wanted, yielded]; done))); (focus (intro w; go_simp; with_reducible rfl)); go_simp)
          (apply SeqL.pure; (focus (first | rfl | (go_simp; done) | (simp [Region.wanted, yielded]; done))); (focus (intro w; go_simp; with_reducible rfl)); go_simp)
          (apply SeqL.pure; (focus (first | rfl | (go_simp; done) | (simp [Region.wanted, yielded]; done))); (focus (intro w; go_simp; with_reducible rfl)); go_simp)
          (apply SeqL.pure; (focus (first | rfl | (go_simp; done) | (simp [Region.wanted, yielded]; done))); (focus (intro w; go_simp; with_reducible rfl)); go_simp)
          (apply SeqL.pure; (focus (first | rfl | (go_simp; done) | (simp [Region.wanted, yielded]; done))); (focus (intro w; go_simp; with_reducible rfl)); go_simp)
          (apply SeqL.skip; (focus (first | rfl | (go_simp; done) | (simp [Region.wanted, yielded]; done))); go_simp)
          (apply SeqL.skip; (focus (first | rfl | (go_simp; done) | (simp [Region.wanted, yielded]; done))); go_simp)
          (apply SeqL.skip; (focus (first | rfl | (go_simp; done) | (simp [Region.wanted, yielded]; done))); go_simp)
          (apply SeqL.skip; (focus (first | rfl | (go_simp; done) | (simp [Region.wanted, yielded]; done))); go_simp)
          (apply SeqL.pure; (focus (first | rfl | (go_simp; done) | (simp [Region.wanted, yielded]; done))); (focus (intro w; go_simp; with_reducible rfl)); go_simp)
          (apply SeqL.pure; (focus (first | rfl | (go_simp; done) | (simp [Region.wanted, yielded]; done))); (focus (intro w; go_simp; with_reducible rfl)); go_simp)
          refine SeqL.done fun w8 hbb => ?_
          have hhh := hbb.2
          replace hbb := hbb.1
          have HBo8 := Lib.hid (HBo7.out.same hbb)
          have A8 : w8.heap[Ob]? = some (.cells #[.int .u8 4, .int .u8 sd, .int .i64 m, .slice UA K.length uc] 45) := by rw [hhh]; exact AH7.out
          have p1 : w8.cell? ⟨Ob, 1, none⟩ = some (.int .u8 sd) := (cell_of_row w8 Ob 1 _ _ (0, 0) A8).trans rfl
          have p3 : w8.cell? ⟨Ob, 3, none⟩ = some (.slice UA K.length uc) := (cell_of_row w8 Ob 3 _ _ (0, 0) A8).trans rfl
          clear hbb hhh A8 HBo7 AH7 cA7 cB7 fB7
          go_wp2_with fail
          rcases K with _ | ⟨x0, K1⟩
          · simp only [List.length_nil] at p3
            refine wp_region_text (fun W => Below w8.heap.size w8 W ∧ W.heap = w8.heap) (by kernel_rfl) (by kernel_rfl) ⟨bl_drew (Below.refl _ _), rfl⟩ ?_
            (apply SeqL.pure; (focus (first | rfl | (go_simp; done) | (simp [Region.wanted, yielded]; done))); (focus (intro w; go_simp; with_reducible rfl)); go_simp)
            (apply SeqL.read; (focus (first | rfl | (go_simp; done) | (simp [Region.wanted, yielded]; done))); (focus (intro W hF; have x0 := (cell_heap hF.2 _).trans p3; go_simp; with_reducible rfl)); go_simp)
            (apply SeqL.pure; (focus (first | rfl | (go_simp; done) | (simp [Region.wanted, yielded]; done))); (focus (intro w; go_simp; with_reducible rfl)); go_simp)
            (apply SeqL.pure; (focus (first | rfl | (go_simp; done) | (simp [Region.wanted, yielded]; done))); (focus (intro w; go_simp; with_reducible rfl)); go_simp)
            (apply SeqL.pure; (focus (first | rfl | (go_simp; done) | (simp [Region.wanted, yielded]; done))); (focus (intro w; go_simp; with_reducible rfl)); go_simp)
            (apply SeqL.skip; (focus (first | rfl | (go_simp; done) | (simp [Region.wanted, yielded]; done))); go_simp)
            (apply SeqL.skip; (focus (first | rfl | (go_simp; done) | (simp [Region.wanted, yielded]; done))); go_simp)
            (apply SeqL.skip; (focus (first | rfl | (go_simp; done) | (simp [Region.wanted, yielded]; done))); go_simp)
            (apply SeqL.skip; (focus (first | rfl | (go_simp; done) | (simp [Region.wanted, yielded]; done))); go_simp)
            (apply SeqL.skip; (focus (first | rfl | (go_simp; done) | (simp [Region.wanted, yielded]; done))); go_simp)
            (apply SeqL.skip; (focus (first | rfl | (go_simp; done) | (simp [Region.wanted, yielded]; done))); go_simp)
            (apply SeqL.skip; (focus (first | rfl | (go_simp; done) | (simp [Region.wanted, yielded]; done))); go_simp)
            (apply SeqL.skip; (focus (first | rfl | (go_simp; done) | (simp [Region.wanted, yielded]; done))); go_simp)
            (apply SeqL.skip; (focus (first | rfl | (go_simp; done) | (simp [Region.wanted, yielded]; done))); go_simp)
            (apply SeqL.skip; (focus (first | rfl | (go_simp; done) | (simp [Region.wanted, yielded]; done))); go_simp)
            (apply SeqL.skip; (focus (first | rfl | (go_simp; done) | (simp [Region.wanted, yielded]; done))); go_simp)
            (apply SeqL.skip; (focus (first | rfl | (go_simp; done) | (simp [Region.wanted, yielded]; done))); go_simp)
            (apply SeqL.skip; (focus (first | rfl | (go_simp; done) | (simp [Region.wanted, yielded]; done))); go_simp)
            (apply SeqL.skip; (focus (first | rfl | (go_simp; done) | (simp [Region.wanted, yielded]; done))); go_simp)
            (apply SeqL.skip; (focus (first | rfl | (go_simp; done) | (simp [Region.wanted, yielded]; done))); go_simp)
            (apply SeqL.skip; (focus (first | rfl | (go_simp; done) | (simp [Region.wanted, yielded]; done))); go_simp)
            (apply SeqL.pure; (focus (first | rfl | (go_simp; done) | (simp [Region.wanted, yielded]; done))); (focus (intro w; go_simp; with_reducible rfl)); go_simp)
            refine SeqL.done fun w9 hbb => ?_
            have hhh := hbb.2
            replace hbb := hbb.1
            have HBo9 := Lib.hid (HBo8.out.same hbb)
            clear hbb hhh
            go_wp2_with fail
            go_roundw
            case rel => exact ⟨k + 1, lab6, s, by omega, by go_num, HBo9.out, by have h := HTO.out; have h2 := HTK.out; show _ ≤ _; omega⟩
            case measure => simp [intOf] <;> omega
          · obtain ⟨A4, c4, e4, _, h4⟩ := HLR.out
            simp only [Value.slice.injEq] at e4
            obtain ⟨rfl, _, _⟩ := e4
            obtain ⟨b4, of4, u4, rfl, _, q4, B4, _⟩ := h4 0 (by simp)
            have hbl4 := block_lt_of_cell q4
            have p4 := ((bcell HBo8.out.below).1 b4 _ hbl4).trans q4
            rw [Nat.add_zero] at p4
            have BW := B4.below HBo8.out.below
            have B8 := Lib.hid BW
            clear q4 BW B4
            simp only [List.length_cons] at p3
            refine wp_region_text (fun W => Below w8.heap.size w8 W ∧ W.heap = w8.heap) (by kernel_rfl) (by kernel_rfl) ⟨bl_drew (Below.refl _ _), rfl⟩ ?_
            (apply SeqL.pure; (focus (first | rfl | (go_simp; done) | (simp [Region.wanted, yielded]; done))); (focus (intro w; go_simp; with_reducible rfl)); go_simp)
            (apply SeqL.read; (focus (first | rfl | (go_simp; done) | (simp [Region.wanted, yielded]; done))); (focus (intro W hF; have x0 := (cell_heap hF.2 _).trans p3; go_simp; with_reducible rfl)); go_simp)
            (apply SeqL.pure; (focus (first | rfl | (go_simp; done) | (simp [Region.wanted, yielded]; done))); (focus (intro w; go_simp; with_reducible rfl)); go_simp)
            (apply SeqL.pure; (focus (first | rfl | (go_simp; done) | (simp [Region.wanted, yielded]; done))); (focus (intro w; go_simp; with_reducible rfl)); go_simp)
            (apply SeqL.pure; (focus (first | rfl | (go_simp; done) | (simp [Region.wanted, yielded]; done))); (focus (intro w; go_simp; with_reducible rfl)); go_simp)
            (apply SeqL.pure; (focus (first | rfl | (go_simp; done) | (simp [Region.wanted, yielded]; done))); (focus (intro w; go_simp; with_reducible rfl)); go_simp)
            (apply SeqL.pure; (focus (first | rfl | (go_simp; done) | (simp [Region.wanted, yielded]; done))); (focus (intro w; go_simp; with_reducible rfl)); go_simp)
            (apply SeqL.read; (focus (first | rfl | (go_simp; done) | (simp [Region.wanted, yielded]; done))); (focus (intro W hF; have x0 := (cell_heap hF.2 _).trans p1; go_simp; with_reducible rfl)); go_simp)
            (apply SeqL.pure; (focus (first | rfl | (go_simp; done) | (simp [Region.wanted, yielded]; done))); (focus (intro w; go_simp; with_reducible rfl)); go_simp)
            (apply SeqL.read; (focus (first | rfl | (go_simp; done) | (simp [Region.wanted, yielded]; done))); (focus (intro W hF; have x0 := (cell_heap hF.2 _).trans p3; go_simp; with_reducible rfl)); go_simp)
            (apply SeqL.pure; (focus (first | rfl | (go_simp; done) | (simp [Region.wanted, yielded]; done))); (focus (intro w; go_simp; with_reducible rfl)); go_simp)
            (apply SeqL.read; (focus (first | rfl | (go_simp; done) | (simp [Region.wanted, yielded]; done))); (focus (intro W hF; have x0 := (cell_heap hF.2 _).trans p4; go_simp; with_reducible rfl)); go_simp)
            refine SeqL.call (.bool (decide (x0 ∈ s.half sd))) 13 #[.pointer (some ⟨N, 0, none⟩), .int .u8 sd, u4] ?_ (fun w => by kernel_rfl) (fun W hW => (genuine_any (lab6) N s sd u4 x0 W (HBo8.out.net.keep (fun g _ _ _ => by rw [hW.2]) (fun _ _ => rfl)) hsd (B8.out.keep fun _ _ _ _ => by rw [hW.2])).mono fun e w' h => ⟨by rw [h.1, HMM.out], bl_then hW.1 hW.1.size h.2.1, by rw [h.2.2, hW.2]⟩) ?_
            · (first | rfl | (go_simp; done) | (simp [Region.wanted, yielded]; done))
            go_simp
            (apply SeqL.pure; (focus (first | rfl | (go_simp; done) | (simp [Region.wanted, yielded]; done))); (focus (intro w; go_simp; with_reducible rfl)); go_simp)
            (apply SeqL.read; (focus (first | rfl | (go_simp; done) | (simp [Region.wanted, yielded]; done))); (focus (intro W hF; have x0 := (cell_heap hF.2 _).trans p1; go_simp; with_reducible rfl)); go_simp)
            (apply SeqL.pure; (focus (first | rfl | (go_simp; done) | (simp [Region.wanted, yielded]; done))); (focus (intro w; go_simp; with_reducible rfl)); go_simp)
            (apply SeqL.read; (focus (first | rfl | (go_simp; done) | (simp [Region.wanted, yielded]; done))); (focus (intro W hF; have x0 := (cell_heap hF.2 _).trans p3; go_simp; with_reducible rfl)); go_simp)
            (apply SeqL.pure; (focus (first | rfl | (go_simp; done) | (simp [Region.wanted, yielded]; done))); (focus (intro w; go_simp; with_reducible rfl)); go_simp)
            (apply SeqL.read; (focus (first | rfl | (go_simp; done) | (simp [Region.wanted, yielded]; done))); (focus (intro W hF; have x0 := (cell_heap hF.2 _).trans p4; go_simp; with_reducible rfl)); go_simp)
            refine SeqL.call (.bool (decide (x0 ∈ s.half sd))) 18 #[.pointer (some ⟨T, 0, none⟩), .int .u8 sd, u4] ?_ (fun w => by kernel_rfl) (fun W hW => (rgenuine_any lab6 T s sd u4 x0 W (HBo8.out.ref.keep (fun g _ _ _ => by rw [hW.2]) (fun _ _ => rfl)) HS.out (B8.out.keep fun _ _ _ _ => by rw [hW.2])).mono fun e w' h => ⟨h.1, by rw [← h.2]; exact hW⟩) ?_
            · (first | rfl | (go_simp; done) | (simp [Region.wanted, yielded]; done))
            go_simp
            (apply SeqL.pure; (focus (first | rfl | (go_simp; done) | (simp [Region.wanted, yielded]; done))); (focus (intro w; go_simp; with_reducible rfl)); go_simp)
            (apply SeqL.pure; (focus (first | rfl | (go_simp; done) | (simp [Region.wanted, yielded]; done))); (focus (intro w; go_simp; with_reducible rfl)); go_simp)
            refine SeqL.done fun w9 hbb => ?_
            have hhh := hbb.2
            replace hbb := hbb.1
            have HBo9 := Lib.hid (HBo8.out.same hbb)
            clear hbb hhh
            go_wp2_with fail
            go_roundw
            case rel => exact ⟨k + 1, lab6, s, by omega, by go_num, HBo9.out, by have h := HTO.out; have h2 := HTK.out; show _ ≤ _; omega⟩
            case measure => simp [intOf] <;> omega
        · as_aux_lemma =>
          go_wp2_with fail
          go_roundw
          case rel => exact ⟨k + 1, lab6, s, by omega, by go_num, HBo6.out, by have h := HTO.out; have h2 := HTK.out; show _ ≤ _; omega⟩
          case measure => simp [intOf] <;> omega
    · go_wp2_with fail
      refine (anchored_any wr).mono ?_
      rintro e w3 ⟨rfl, hb3⟩
      have HB3 := Lib.hid (bl_then HBo.out.below HBo.out.below.size hb3)
      clear hb3
      go_wp2_with fail
      go_ret
      exact ⟨rfl, HB3.out⟩
end Go.Proofs.Ythebhbcfacoknaa
