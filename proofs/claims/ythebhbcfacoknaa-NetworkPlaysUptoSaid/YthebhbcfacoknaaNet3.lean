/- What is proved: what Next, Lose and Counts of a network do when they are called; conditions: the network is there as it is said to be. -/
import Derived.Test.YthebhbcfacoknaaNet2
import Derived.StillTailTactics
set_option linter.unusedSimpArgs false
set_option linter.unusedVariables false
namespace Go.Proofs.Ythebhbcfacoknaa
open Go.RowKit
open Go.Maps (Keyed)
set_option maxRecDepth 100000
set_option maxHeartbeats 1000000
def ext (lab : Nat → Nat) (k : Nat) : Nat → Nat := fun g => if g < k then lab g else 0
theorem ext_old (lab : Nat → Nat) {k g : Nat} (h : g < k) : ext lab k g = lab g := if_pos h
theorem ext_new (lab : Nat → Nat) {k g : Nat} (h : k ≤ g) : ext lab k g = 0 := if_neg (by omega)
theorem Net.set0 {w : World} {lab : Nat → Nat} {N : Nat} {s : NS} (h : Net w lab N s) (n : Nat) (hn : n ≤ s.l0.length) : Net (w.setCell ⟨N, 2, none⟩ (.int .i64 n)) lab N { s with n0 := n } := by
  obtain ⟨v0, v1, M, h1, h2, h3, h4, h5, h6, h7, h8⟩ := h
  have hk : ∀ g, lab g ≠ 1 → (w.setCell ⟨N, 2, none⟩ (.int .i64 n)).heap[g]? = w.heap[g]? := fun g hg => heap_setCell_other w _ g _ (fun e => hg (by rw [e]; exact h1))
  exact ⟨v0, v1, M, h1, h2, (heap_setCell_same w N 2 _ _ _ h3).trans rfl, h4.keep (fun g _ hg => hk g (by omega)) (fun _ _ => rfl), h5.keep (fun g _ hg => hk g (by omega)) (fun _ _ => rfl), h6.keep (hk M (by omega)), hn, h8⟩
theorem Net.set1 {w : World} {lab : Nat → Nat} {N : Nat} {s : NS} (h : Net w lab N s) (n : Nat) (hn : n ≤ s.l1.length) : Net (w.setCell ⟨N, 3, none⟩ (.int .i64 n)) lab N { s with n1 := n } := by
  obtain ⟨v0, v1, M, h1, h2, h3, h4, h5, h6, h7, h8⟩ := h
  have hk : ∀ g, lab g ≠ 1 → (w.setCell ⟨N, 3, none⟩ (.int .i64 n)).heap[g]? = w.heap[g]? := fun g hg => heap_setCell_other w _ g _ (fun e => hg (by rw [e]; exact h1))
  exact ⟨v0, v1, M, h1, h2, (heap_setCell_same w N 3 _ _ _ h3).trans rfl, h4.keep (fun g _ hg => hk g (by omega)) (fun _ _ => rfl), h5.keep (fun g _ hg => hk g (by omega)) (fun _ _ => rfl), h6.keep (hk M (by omega)), h7, hn⟩
theorem Net.drew {w : World} {lab : Nat → Nat} {N : Nat} {s : NS} (h : Net w lab N s) : Net w.drew lab N s := h
def NS.to (s : NS) (sd : Int) (n : Nat) : NS := if sd = 1 then { s with n0 := n } else if sd = 2 then { s with n1 := n } else s
def nextPost (lab : Nat → Nat) (N : Nat) (s : NS) (sd : Int) (w : World) (e : Ending) (w' : World) : Prop :=
  (if s.next sd < (s.half sd).length then (∃ v, e = .returned (.tuple #[v, .bool true]) ∧ OwB w' w.heap.size v ((s.half sd).getD (s.next sd) [])) ∧ Net w' (ext lab w.heap.size) N (s.to sd (s.next sd + 1))
   else e = .returned (.tuple #[.slice none 0 0, .bool false]) ∧ Net w' (ext lab w.heap.size) N s) ∧ w.grownBy w' (some N)
theorem Rows_.cap {w : World} {lab : Nat → Nat} {tr ti : Nat} {A : Option Addr} {n c : Nat} {L : List (List Int)} (h : Rows_ w lab tr ti (.slice A n c) L) : L.length ≤ c ∧ c ≤ 9223372036854775807 := by
  obtain ⟨vs, h1, ⟨hl, h | ⟨g, cap, cur, e, hg, hh, hc, hm, hs, ht⟩⟩, h3, h4⟩ := h
  · obtain ⟨h, h0⟩ := h
    simp only [Value.slice.injEq] at h
    omega
  · simp only [Value.slice.injEq] at e
    unfold maxLen at hm
    omega
/-- 's[k:n:n]' of a slice, by its length alone. -/
theorem run_slice_mid (P : Program) (t e : TypeId) (h : P.underlying t = some (.slice e)) (i : TypeInfo) (he : P.info? e = some i) (A : Option Addr) (n cap k : Nat) (hk : k ≤ n) (hn : n ≤ cap) : ∃ B, ∀ W : World,
    (Instr.slice t (.slice A n cap) (some (.int .i64 (k : Int))) (some (.int .i64 (n : Int))) (some (.int .i64 (n : Int)))).run P W = .ok (.slice B (n - k) (n - k)) W := by
  have hk2 : (k : Int) ≤ n := by omega
  have hk3 : (n : Int) ≤ cap := by omega
  have hk4 : (k : Int) ≤ cap := by omega
  refine ⟨if n = k then A else A.map (·.add (k * i.size)), fun W => ?_⟩
  simp [Instr.slice, run_underlying h, Instr.sliceBounds, run_sliceBound, sizeOf, typeInfo, he, hk2, hk3, hk4]
theorem next_1 (lab : Nat → Nat) (N : Nat) (s : NS) (sd : Int) (w : World) (h : Net w lab N s) (hsd : sd = 1) :
    Calls Try.prog 10 #[.pointer (some ⟨N, 0, none⟩), .int .u8 sd] w (nextPost lab N s sd w) := by
  (have HN := Lib.hid h; obtain ⟨v0, v1, M, l1, l2, hN, h4, h5, h6, h7, h8⟩ := h; (have c0 : w.cell? ⟨N, 0, none⟩ = some v0 := (cell_of_row w N 0 _ _ (0, 0) hN).trans rfl; have c1 : w.cell? ⟨N, 1, none⟩ = some v1 := (cell_of_row w N 1 _ _ (0, 0) hN).trans rfl; have c2 : w.cell? ⟨N, 2, none⟩ = some (.int .i64 s.n0) := (cell_of_row w N 2 _ _ (0, 0) hN).trans rfl; have c3 : w.cell? ⟨N, 3, none⟩ = some (.int .i64 s.n1) := (cell_of_row w N 3 _ _ (0, 0) hN).trans rfl; have c4 : w.cell? ⟨N, 4, none⟩ = some (.map (some M)) := (cell_of_row w N 4 _ _ (0, 0) hN).trans rfl); obtain ⟨A0, p0, rfl, r0⟩ := h4.form; obtain ⟨A1, p1, rfl, r1⟩ := h5.form; have m0 := half_len h4; have m1 := half_len h5; have q0 := h4.cap; have q1 := h5.cap; unfold maxLen at m0 m1; have HNl := Lib.hid HN.out.lt; clear h4 h5 h6 r0 r1; replace hN := Lib.hid hN)
  subst hsd
  have e1 : s.half 1 = s.l0 := rfl
  have e0 : s.next 1 = s.n0 := rfl
  have e2 : sideNo 1 = 0 := rfl
  have e3 : s.to 1 (s.n0 + 1) = { s with n0 := s.n0 + 1 } := rfl
  unfold nextPost
  rw [e1, e0, e3]
  go_enter Try.func10, Try.ntmps10
  go_wp2_with fail
  refine (side_at N 1 M w (by omega) c4).mono ?_
  rintro e w1 ⟨rfl, rfl⟩
  rw [e2]
  go_wp2_with fail
  by_cases hlt : s.n0 < s.l0.length
  · go_still (by kernel_rfl)
    change Exit.then _ _ _ _ w.drew
    have HN2 : Hid (Net w.drew lab N s) := HN
    have hb2 : Below w.heap.size w w.drew := bl_drew (Below.refl _ _)
    have hz2 : w.drew.heap.size = w.heap.size := rfl
    generalize w.drew = w2 at HN2 hb2 hz2 ⊢
    have d2 : w2.cell? ⟨N, 2, none⟩ = some (.int .i64 s.n0) := ((bcell hb2).1 N 2 HNl.out).trans c2
    have f2 : w2.frozen? ⟨N, 2, none⟩ = false := ((bcell hb2).2 N 2 HNl.out).trans (frozen_of_row w N 2 _ _ hN.out)
    clear c0 c1 c2 c3 c4
    have w63 : IntKind.i64.wrap ((s.n0 : Int) + 1) = (s.n0 : Int) + 1 := IntWalk.i64_in _ (by omega)
    go_wp2_with fail
    go_still_tail 10, (by kernel_rfl)
    change wpList _ _ _ _ _ w2.drew
    have HN3 : Hid (Net w2.drew lab N s) := HN2
    have hb3 : Below w.heap.size w w2.drew := bl_drew hb2
    have d2 : w2.drew.cell? ⟨N, 2, none⟩ = some (.int .i64 s.n0) := d2
    have f2 : w2.drew.frozen? ⟨N, 2, none⟩ = false := f2
    have hz3 : w2.drew.heap.size = w.heap.size := hz2
    generalize w2.drew = w3 at hz3 HN3 hb3 d2 f2 ⊢
    have hl3 : N < w3.heap.size := HN3.out.lt
    have HN4 := Lib.hid (HN3.out.set0 (s.n0 + 1) (by omega))
    have H3 := Lib.hid hb3
    clear hb2 hb3 HN2
    go_wp2_with fail
    refine (at_any lab N { s with n0 := s.n0 + 1 } 1 s.n0 _ HN4.out (by omega)).mono ?_
    rintro e w4 ⟨he, hb4⟩
    have e5 : ({ s with n0 := s.n0 + 1 } : NS).half 1 = s.l0 := rfl
    rw [e5, if_pos (by omega)] at he
    obtain ⟨v, rfl, hv⟩ := he
    have HV := Lib.hid hv
    have H4 := Lib.hid hb4
    clear hv hb4 d2 f2
    go_wp2_with fail
    go_ret2
    have hz4 := H4.out.size
    simp only [World.size_setCell] at hz4
    refine ⟨?_, ?_⟩
    · try rw [if_pos hlt]
      refine ⟨⟨_, rfl, ?_⟩, ?_⟩
      · have hv := HV.out
        simp only [World.size_setCell, hz3, Int.toNat_natCast] at hv
        first | exact hv | (rw [List.getD_eq_getElem?_getD, List.getElem?_eq_getElem hlt] at hv; exact hv)
      · refine HN4.out.keep (fun g hg _ _ => H4.out.block g hg) (fun g hg => ?_)
        simp only [World.size_setCell] at hg
        exact ext_old lab (by omega)
    · refine ⟨H4.out.os.trans H3.out.os, H4.out.tape.trans H3.out.tape, H4.out.output.trans H3.out.output, by omega, fun g hg hne => ?_⟩
      refine (H4.out.block g (by simp only [World.size_setCell]; omega)).trans ?_
      exact (heap_setCell_other w3 _ g _ (fun e => hne (congrArg some e))).trans (H3.out.block g hg)
  · go_still (by kernel_rfl)
    change Exit.then _ _ _ _ w.drew
    have HN2 : Hid (Net w.drew lab N s) := HN
    have hb2 : Below w.heap.size w w.drew := bl_drew (Below.refl _ _)
    have hz2 : w.drew.heap.size = w.heap.size := rfl
    generalize w.drew = w2 at HN2 hb2 hz2 ⊢
    go_wp2_with fail
    go_ret2
    refine ⟨?_, ?_⟩
    · try rw [if_neg hlt]
      exact ⟨rfl, HN2.out.keep (fun _ _ _ _ => rfl) (fun g hg => ext_old lab (by omega))⟩
    · exact ⟨hb2.os, hb2.tape, hb2.output, hb2.size, fun g hg _ => hb2.block g hg⟩
theorem next_2 (lab : Nat → Nat) (N : Nat) (s : NS) (sd : Int) (w : World) (h : Net w lab N s) (hsd : sd = 2) :
    Calls Try.prog 10 #[.pointer (some ⟨N, 0, none⟩), .int .u8 sd] w (nextPost lab N s sd w) := by
  (have HN := Lib.hid h; obtain ⟨v0, v1, M, l1, l2, hN, h4, h5, h6, h7, h8⟩ := h; (have c0 : w.cell? ⟨N, 0, none⟩ = some v0 := (cell_of_row w N 0 _ _ (0, 0) hN).trans rfl; have c1 : w.cell? ⟨N, 1, none⟩ = some v1 := (cell_of_row w N 1 _ _ (0, 0) hN).trans rfl; have c2 : w.cell? ⟨N, 2, none⟩ = some (.int .i64 s.n0) := (cell_of_row w N 2 _ _ (0, 0) hN).trans rfl; have c3 : w.cell? ⟨N, 3, none⟩ = some (.int .i64 s.n1) := (cell_of_row w N 3 _ _ (0, 0) hN).trans rfl; have c4 : w.cell? ⟨N, 4, none⟩ = some (.map (some M)) := (cell_of_row w N 4 _ _ (0, 0) hN).trans rfl); obtain ⟨A0, p0, rfl, r0⟩ := h4.form; obtain ⟨A1, p1, rfl, r1⟩ := h5.form; have m0 := half_len h4; have m1 := half_len h5; have q0 := h4.cap; have q1 := h5.cap; unfold maxLen at m0 m1; have HNl := Lib.hid HN.out.lt; clear h4 h5 h6 r0 r1; replace hN := Lib.hid hN)
  subst hsd
  have e1 : s.half 2 = s.l1 := rfl
  have e0 : s.next 2 = s.n1 := rfl
  have e2 : sideNo 2 = 1 := rfl
  have e3 : s.to 2 (s.n1 + 1) = { s with n1 := s.n1 + 1 } := rfl
  unfold nextPost
  rw [e1, e0, e3]
  go_enter Try.func10, Try.ntmps10
  go_wp2_with fail
  refine (side_at N 2 M w (by omega) c4).mono ?_
  rintro e w1 ⟨rfl, rfl⟩
  rw [e2]
  go_wp2_with fail
  by_cases hlt : s.n1 < s.l1.length
  · go_still (by kernel_rfl)
    change Exit.then _ _ _ _ w.drew
    have HN2 : Hid (Net w.drew lab N s) := HN
    have hb2 : Below w.heap.size w w.drew := bl_drew (Below.refl _ _)
    have hz2 : w.drew.heap.size = w.heap.size := rfl
    generalize w.drew = w2 at HN2 hb2 hz2 ⊢
    have d3 : w2.cell? ⟨N, 3, none⟩ = some (.int .i64 s.n1) := ((bcell hb2).1 N 3 HNl.out).trans c3
    have f3 : w2.frozen? ⟨N, 3, none⟩ = false := ((bcell hb2).2 N 3 HNl.out).trans (frozen_of_row w N 3 _ _ hN.out)
    clear c0 c1 c2 c3 c4
    have w63 : IntKind.i64.wrap ((s.n1 : Int) + 1) = (s.n1 : Int) + 1 := IntWalk.i64_in _ (by omega)
    go_wp2_with fail
    go_still_tail 10, (by kernel_rfl)
    change wpList _ _ _ _ _ w2.drew
    have HN3 : Hid (Net w2.drew lab N s) := HN2
    have hb3 : Below w.heap.size w w2.drew := bl_drew hb2
    have d3 : w2.drew.cell? ⟨N, 3, none⟩ = some (.int .i64 s.n1) := d3
    have f3 : w2.drew.frozen? ⟨N, 3, none⟩ = false := f3
    have hz3 : w2.drew.heap.size = w.heap.size := hz2
    generalize w2.drew = w3 at hz3 HN3 hb3 d3 f3 ⊢
    have hl3 : N < w3.heap.size := HN3.out.lt
    have HN4 := Lib.hid (HN3.out.set1 (s.n1 + 1) (by omega))
    have H3 := Lib.hid hb3
    clear hb2 hb3 HN2
    go_wp2_with fail
    refine (at_any lab N { s with n1 := s.n1 + 1 } 2 s.n1 _ HN4.out (by omega)).mono ?_
    rintro e w4 ⟨he, hb4⟩
    have e5 : ({ s with n1 := s.n1 + 1 } : NS).half 2 = s.l1 := rfl
    rw [e5, if_pos (by omega)] at he
    obtain ⟨v, rfl, hv⟩ := he
    have HV := Lib.hid hv
    have H4 := Lib.hid hb4
    clear hv hb4 d3 f3
    go_wp2_with fail
    go_ret2
    have hz4 := H4.out.size
    simp only [World.size_setCell] at hz4
    refine ⟨?_, ?_⟩
    · try rw [if_pos hlt]
      refine ⟨⟨_, rfl, ?_⟩, ?_⟩
      · have hv := HV.out
        simp only [World.size_setCell, hz3, Int.toNat_natCast] at hv
        first | exact hv | (rw [List.getD_eq_getElem?_getD, List.getElem?_eq_getElem hlt] at hv; exact hv)
      · refine HN4.out.keep (fun g hg _ _ => H4.out.block g hg) (fun g hg => ?_)
        simp only [World.size_setCell] at hg
        exact ext_old lab (by omega)
    · refine ⟨H4.out.os.trans H3.out.os, H4.out.tape.trans H3.out.tape, H4.out.output.trans H3.out.output, by omega, fun g hg hne => ?_⟩
      refine (H4.out.block g (by simp only [World.size_setCell]; omega)).trans ?_
      exact (heap_setCell_other w3 _ g _ (fun e => hne (congrArg some e))).trans (H3.out.block g hg)
  · go_still (by kernel_rfl)
    change Exit.then _ _ _ _ w.drew
    have HN2 : Hid (Net w.drew lab N s) := HN
    have hb2 : Below w.heap.size w w.drew := bl_drew (Below.refl _ _)
    have hz2 : w.drew.heap.size = w.heap.size := rfl
    generalize w.drew = w2 at HN2 hb2 hz2 ⊢
    go_wp2_with fail
    go_ret2
    refine ⟨?_, ?_⟩
    · try rw [if_neg hlt]
      exact ⟨rfl, HN2.out.keep (fun _ _ _ _ => rfl) (fun g hg => ext_old lab (by omega))⟩
    · exact ⟨hb2.os, hb2.tape, hb2.output, hb2.size, fun g hg _ => hb2.block g hg⟩
theorem next_0 (lab : Nat → Nat) (N : Nat) (s : NS) (sd : Int) (w : World) (h : Net w lab N s) (hs : 0 ≤ sd ∧ sd ≤ 255) (h1 : ¬ sd = 1) (h2 : ¬ sd = 2) :
    Calls Try.prog 10 #[.pointer (some ⟨N, 0, none⟩), .int .u8 sd] w (nextPost lab N s sd w) := by
  (have HN := Lib.hid h; obtain ⟨v0, v1, M, l1, l2, hN, h4, h5, h6, h7, h8⟩ := h; (have c0 : w.cell? ⟨N, 0, none⟩ = some v0 := (cell_of_row w N 0 _ _ (0, 0) hN).trans rfl; have c1 : w.cell? ⟨N, 1, none⟩ = some v1 := (cell_of_row w N 1 _ _ (0, 0) hN).trans rfl; have c2 : w.cell? ⟨N, 2, none⟩ = some (.int .i64 s.n0) := (cell_of_row w N 2 _ _ (0, 0) hN).trans rfl; have c3 : w.cell? ⟨N, 3, none⟩ = some (.int .i64 s.n1) := (cell_of_row w N 3 _ _ (0, 0) hN).trans rfl; have c4 : w.cell? ⟨N, 4, none⟩ = some (.map (some M)) := (cell_of_row w N 4 _ _ (0, 0) hN).trans rfl); obtain ⟨A0, p0, rfl, r0⟩ := h4.form; obtain ⟨A1, p1, rfl, r1⟩ := h5.form; have m0 := half_len h4; have m1 := half_len h5; have q0 := h4.cap; have q1 := h5.cap; unfold maxLen at m0 m1; have HNl := Lib.hid HN.out.lt; clear h4 h5 h6 r0 r1; replace hN := Lib.hid hN)
  have e1 : s.half sd = [] := by simp [NS.half, h1, h2]
  have e0 : s.next sd = 0 := by simp [NS.next, h1, h2]
  have e2 : sideNo sd = -1 := by simp [sideNo, h1, h2]
  have e4 : ∀ n, s.to sd n = s := fun n => by simp [NS.to, h1, h2]
  unfold nextPost
  rw [e1, e0]
  go_enter Try.func10, Try.ntmps10
  go_wp2_with fail
  refine (side_at N sd M w hs c4).mono ?_
  rintro e w1 ⟨rfl, rfl⟩
  rw [e2]
  go_wp2_with fail
  refine wp_region_text (fun W => Below w.heap.size w W ∧ W.heap = w.heap) (by kernel_rfl) (by kernel_rfl) ⟨bl_drew (Below.refl _ _), rfl⟩ ?_
  (apply SeqL.pure; (focus (first | rfl | (go_simp; done) | (simp [Region.wanted, yielded]; done))); (focus (intro w; go_simp; with_reducible rfl)); go_simp)
  (apply SeqL.pure; (focus (first | rfl | (go_simp; done) | (simp [Region.wanted, yielded]; done))); (focus (intro w; go_simp; with_reducible rfl)); go_simp)
  (apply SeqL.pure; (focus (first | rfl | (go_simp; done) | (simp [Region.wanted, yielded]; done))); (focus (intro w; go_simp; with_reducible rfl)); go_simp)
  (apply SeqL.skip; (focus (first | rfl | (go_simp; done) | (simp [Region.wanted, yielded]; done))); go_simp)
  (apply SeqL.skip; (focus (first | rfl | (go_simp; done) | (simp [Region.wanted, yielded]; done))); go_simp)
  (apply SeqL.skip; (focus (first | rfl | (go_simp; done) | (simp [Region.wanted, yielded]; done))); go_simp)
  (apply SeqL.skip; (focus (first | rfl | (go_simp; done) | (simp [Region.wanted, yielded]; done))); go_simp)
  (apply SeqL.skip; (focus (first | rfl | (go_simp; done) | (simp [Region.wanted, yielded]; done))); go_simp)
  (apply SeqL.skip; (focus (first | rfl | (go_simp; done) | (simp [Region.wanted, yielded]; done))); go_simp)
  (apply SeqL.skip; (focus (first | rfl | (go_simp; done) | (simp [Region.wanted, yielded]; done))); go_simp)
  (apply SeqL.skip; (focus (first | rfl | (go_simp; done) | (simp [Region.wanted, yielded]; done))); go_simp)
  (apply SeqL.skip; (focus (first | rfl | (go_simp; done) | (simp [Region.wanted, yielded]; done))); go_simp)
  (apply SeqL.skip; (focus (first | rfl | (go_simp; done) | (simp [Region.wanted, yielded]; done))); go_simp)
  (apply SeqL.skip; (focus (first | rfl | (go_simp; done) | (simp [Region.wanted, yielded]; done))); go_simp)
  (apply SeqL.skip; (focus (first | rfl | (go_simp; done) | (simp [Region.wanted, yielded]; done))); go_simp)
  (apply SeqL.skip; (focus (first | rfl | (go_simp; done) | (simp [Region.wanted, yielded]; done))); go_simp)
  (apply SeqL.skip; (focus (first | rfl | (go_simp; done) | (simp [Region.wanted, yielded]; done))); go_simp)
  (apply SeqL.pure; (focus (first | rfl | (go_simp; done) | (simp [Region.wanted, yielded]; done))); (focus (intro w; go_simp; with_reducible rfl)); go_simp)
  refine SeqL.done fun w2 hb2 => ?_
  go_wp2_with fail
  go_ret2
  refine ⟨?_, ?_⟩
  · try rw [if_neg (by simp)]
    exact ⟨rfl, HN.out.keep (fun g _ _ _ => by rw [hb2.2]) (fun g hg => ext_old lab hg)⟩
  · exact ⟨hb2.1.os, hb2.1.tape, hb2.1.output, hb2.1.size, fun g hg _ => hb2.1.block g hg⟩
theorem next_any (lab : Nat → Nat) (N : Nat) (s : NS) (sd : Int) (w : World) (h : Net w lab N s) (hs : 0 ≤ sd ∧ sd ≤ 255) :
    Calls Try.prog 10 #[.pointer (some ⟨N, 0, none⟩), .int .u8 sd] w (nextPost lab N s sd w) := by
  by_cases h1 : sd = 1
  · exact next_1 lab N s sd w h h1
  · by_cases h2 : sd = 2
    · exact next_2 lab N s sd w h h2
    · exact next_0 lab N s sd w h hs h1 h2
def countsPost (lab : Nat → Nat) (N : Nat) (s : NS) (sd : Int) (w : World) (e : Ending) (w' : World) : Prop :=
  e = .returned (.tuple #[.int .i64 (s.half sd).length, .int .i64 ((s.half sd).length - (s.next sd))]) ∧ Below w.heap.size w w' ∧ w'.heap = w.heap
theorem counts_1 (lab : Nat → Nat) (N : Nat) (s : NS) (sd : Int) (w : World) (h : Net w lab N s) (hsd : sd = 1) :
    Calls Try.prog 17 #[.pointer (some ⟨N, 0, none⟩), .int .u8 sd] w (countsPost lab N s sd w) := by
  (have HN := Lib.hid h; obtain ⟨v0, v1, M, l1, l2, hN, h4, h5, h6, h7, h8⟩ := h; (have c0 : w.cell? ⟨N, 0, none⟩ = some v0 := (cell_of_row w N 0 _ _ (0, 0) hN).trans rfl; have c1 : w.cell? ⟨N, 1, none⟩ = some v1 := (cell_of_row w N 1 _ _ (0, 0) hN).trans rfl; have c2 : w.cell? ⟨N, 2, none⟩ = some (.int .i64 s.n0) := (cell_of_row w N 2 _ _ (0, 0) hN).trans rfl; have c3 : w.cell? ⟨N, 3, none⟩ = some (.int .i64 s.n1) := (cell_of_row w N 3 _ _ (0, 0) hN).trans rfl; have c4 : w.cell? ⟨N, 4, none⟩ = some (.map (some M)) := (cell_of_row w N 4 _ _ (0, 0) hN).trans rfl); obtain ⟨A0, p0, rfl, r0⟩ := h4.form; obtain ⟨A1, p1, rfl, r1⟩ := h5.form; have m0 := half_len h4; have m1 := half_len h5; have q0 := h4.cap; have q1 := h5.cap; unfold maxLen at m0 m1; have HNl := Lib.hid HN.out.lt; clear h4 h5 h6 r0 r1; replace hN := Lib.hid hN)
  subst hsd
  have e1 : s.half 1 = s.l0 := rfl
  have e0 : s.next 1 = s.n0 := rfl
  have e2 : sideNo 1 = 0 := rfl
  unfold countsPost
  rw [e1, e0]
  go_enter Try.func17, Try.ntmps17
  go_wp2_with fail
  refine (side_at N 1 M w (by omega) c4).mono ?_
  rintro e w1 ⟨rfl, rfl⟩
  rw [e2]
  go_wp2_with fail
  have w63 : IntKind.i64.wrap ((s.l0.length : Int) - (s.n0 : Int)) = (s.l0.length : Int) - (s.n0 : Int) := IntWalk.i64_in _ (by omega)
  go_still (by kernel_rfl)
  change Exit.then _ _ _ _ w.drew
  have hb2 : Below w.heap.size w w.drew := bl_drew (Below.refl _ _)
  have hz2 : w.drew.heap = w.heap := rfl
  generalize w.drew = w2 at hb2 hz2 ⊢
  go_wp2_with fail
  go_ret2
  exact ⟨rfl, hb2, hz2⟩
theorem counts_2 (lab : Nat → Nat) (N : Nat) (s : NS) (sd : Int) (w : World) (h : Net w lab N s) (hsd : sd = 2) :
    Calls Try.prog 17 #[.pointer (some ⟨N, 0, none⟩), .int .u8 sd] w (countsPost lab N s sd w) := by
  (have HN := Lib.hid h; obtain ⟨v0, v1, M, l1, l2, hN, h4, h5, h6, h7, h8⟩ := h; (have c0 : w.cell? ⟨N, 0, none⟩ = some v0 := (cell_of_row w N 0 _ _ (0, 0) hN).trans rfl; have c1 : w.cell? ⟨N, 1, none⟩ = some v1 := (cell_of_row w N 1 _ _ (0, 0) hN).trans rfl; have c2 : w.cell? ⟨N, 2, none⟩ = some (.int .i64 s.n0) := (cell_of_row w N 2 _ _ (0, 0) hN).trans rfl; have c3 : w.cell? ⟨N, 3, none⟩ = some (.int .i64 s.n1) := (cell_of_row w N 3 _ _ (0, 0) hN).trans rfl; have c4 : w.cell? ⟨N, 4, none⟩ = some (.map (some M)) := (cell_of_row w N 4 _ _ (0, 0) hN).trans rfl); obtain ⟨A0, p0, rfl, r0⟩ := h4.form; obtain ⟨A1, p1, rfl, r1⟩ := h5.form; have m0 := half_len h4; have m1 := half_len h5; have q0 := h4.cap; have q1 := h5.cap; unfold maxLen at m0 m1; have HNl := Lib.hid HN.out.lt; clear h4 h5 h6 r0 r1; replace hN := Lib.hid hN)
  subst hsd
  have e1 : s.half 2 = s.l1 := rfl
  have e0 : s.next 2 = s.n1 := rfl
  have e2 : sideNo 2 = 1 := rfl
  unfold countsPost
  rw [e1, e0]
  go_enter Try.func17, Try.ntmps17
  go_wp2_with fail
  refine (side_at N 2 M w (by omega) c4).mono ?_
  rintro e w1 ⟨rfl, rfl⟩
  rw [e2]
  go_wp2_with fail
  have w63 : IntKind.i64.wrap ((s.l1.length : Int) - (s.n1 : Int)) = (s.l1.length : Int) - (s.n1 : Int) := IntWalk.i64_in _ (by omega)
  go_still (by kernel_rfl)
  change Exit.then _ _ _ _ w.drew
  have hb2 : Below w.heap.size w w.drew := bl_drew (Below.refl _ _)
  have hz2 : w.drew.heap = w.heap := rfl
  generalize w.drew = w2 at hb2 hz2 ⊢
  go_wp2_with fail
  go_ret2
  exact ⟨rfl, hb2, hz2⟩
theorem counts_0 (lab : Nat → Nat) (N : Nat) (s : NS) (sd : Int) (w : World) (h : Net w lab N s) (hs : 0 ≤ sd ∧ sd ≤ 255) (h1 : ¬ sd = 1) (h2 : ¬ sd = 2) :
    Calls Try.prog 17 #[.pointer (some ⟨N, 0, none⟩), .int .u8 sd] w (countsPost lab N s sd w) := by
  (have HN := Lib.hid h; obtain ⟨v0, v1, M, l1, l2, hN, h4, h5, h6, h7, h8⟩ := h; (have c0 : w.cell? ⟨N, 0, none⟩ = some v0 := (cell_of_row w N 0 _ _ (0, 0) hN).trans rfl; have c1 : w.cell? ⟨N, 1, none⟩ = some v1 := (cell_of_row w N 1 _ _ (0, 0) hN).trans rfl; have c2 : w.cell? ⟨N, 2, none⟩ = some (.int .i64 s.n0) := (cell_of_row w N 2 _ _ (0, 0) hN).trans rfl; have c3 : w.cell? ⟨N, 3, none⟩ = some (.int .i64 s.n1) := (cell_of_row w N 3 _ _ (0, 0) hN).trans rfl; have c4 : w.cell? ⟨N, 4, none⟩ = some (.map (some M)) := (cell_of_row w N 4 _ _ (0, 0) hN).trans rfl); obtain ⟨A0, p0, rfl, r0⟩ := h4.form; obtain ⟨A1, p1, rfl, r1⟩ := h5.form; have m0 := half_len h4; have m1 := half_len h5; have q0 := h4.cap; have q1 := h5.cap; unfold maxLen at m0 m1; have HNl := Lib.hid HN.out.lt; clear h4 h5 h6 r0 r1; replace hN := Lib.hid hN)
  have e1 : s.half sd = [] := by simp [NS.half, h1, h2]
  have e0 : s.next sd = 0 := by simp [NS.next, h1, h2]
  have e2 : sideNo sd = -1 := by simp [sideNo, h1, h2]
  have e4 : ∀ n, s.to sd n = s := fun n => by simp [NS.to, h1, h2]
  unfold countsPost
  rw [e1, e0]
  go_enter Try.func17, Try.ntmps17
  go_wp2_with fail
  refine (side_at N sd M w hs c4).mono ?_
  rintro e w1 ⟨rfl, rfl⟩
  rw [e2]
  go_wp2_with fail
  go_ret2
  exact ⟨rfl, Below.refl _ _, rfl⟩
theorem counts_any (lab : Nat → Nat) (N : Nat) (s : NS) (sd : Int) (w : World) (h : Net w lab N s) (hs : 0 ≤ sd ∧ sd ≤ 255) :
    Calls Try.prog 17 #[.pointer (some ⟨N, 0, none⟩), .int .u8 sd] w (countsPost lab N s sd w) := by
  by_cases h1 : sd = 1
  · exact counts_1 lab N s sd w h h1
  · by_cases h2 : sd = 2
    · exact counts_2 lab N s sd w h h2
    · exact counts_0 lab N s sd w h hs h1 h2
def loseN (s : NS) (sd many : Int) : Nat := (max 0 (min many ((s.half sd).length - s.next sd))).toNat
def losePost (lab : Nat → Nat) (N : Nat) (s : NS) (sd many : Int) (w : World) (e : Ending) (w' : World) : Prop :=
  e = .returned (.int .i64 (max 0 (min many ((s.half sd).length - s.next sd)))) ∧ Net w' lab N (s.to sd (s.next sd + (max 0 (min many ((s.half sd).length - s.next sd))).toNat)) ∧ w.grownBy w' (some N) ∧ w'.heap.size = w.heap.size
theorem lose_1 (lab : Nat → Nat) (N : Nat) (s : NS) (sd : Int) (many : Int) (hm : -9223372036854775808 ≤ many ∧ many ≤ 9223372036854775807) (w : World) (h : Net w lab N s) (hsd : sd = 1) :
    Calls Try.prog 16 #[.pointer (some ⟨N, 0, none⟩), .int .u8 sd, .int .i64 many] w (losePost lab N s sd many w) := by
  (have HN := Lib.hid h; obtain ⟨v0, v1, M, l1, l2, hN, h4, h5, h6, h7, h8⟩ := h; (have c0 : w.cell? ⟨N, 0, none⟩ = some v0 := (cell_of_row w N 0 _ _ (0, 0) hN).trans rfl; have c1 : w.cell? ⟨N, 1, none⟩ = some v1 := (cell_of_row w N 1 _ _ (0, 0) hN).trans rfl; have c2 : w.cell? ⟨N, 2, none⟩ = some (.int .i64 s.n0) := (cell_of_row w N 2 _ _ (0, 0) hN).trans rfl; have c3 : w.cell? ⟨N, 3, none⟩ = some (.int .i64 s.n1) := (cell_of_row w N 3 _ _ (0, 0) hN).trans rfl; have c4 : w.cell? ⟨N, 4, none⟩ = some (.map (some M)) := (cell_of_row w N 4 _ _ (0, 0) hN).trans rfl); obtain ⟨A0, p0, rfl, r0⟩ := h4.form; obtain ⟨A1, p1, rfl, r1⟩ := h5.form; have m0 := half_len h4; have m1 := half_len h5; have q0 := h4.cap; have q1 := h5.cap; unfold maxLen at m0 m1; have HNl := Lib.hid HN.out.lt; clear h4 h5 h6 r0 r1; replace hN := Lib.hid hN)
  subst hsd
  have e1 : s.half 1 = s.l0 := rfl
  have e0 : s.next 1 = s.n0 := rfl
  have e2 : sideNo 1 = 0 := rfl
  unfold losePost
  rw [e1, e0]
  go_enter Try.func16, Try.ntmps16
  go_wp2_with fail
  refine (side_at N 1 M w (by omega) c4).mono ?_
  rintro e w1 ⟨rfl, rfl⟩
  rw [e2]
  go_wp2_with fail
  obtain ⟨it, hit⟩ : ∃ i, Try.prog.info? 25 = some i := by
    obtain ⟨i, h, _⟩ := Option.map_eq_some_iff.1 (show (Try.prog.info? 25).map (·.size) = some 1 by kernel_rfl)
    exact ⟨i, h⟩
  obtain ⟨B, hB⟩ := run_slice_mid Try.prog 22 25 Try.underlying22 it hit A0 s.l0.length p0 s.n0 (by omega) (by omega)
  clear hit
  go_still (by kernel_rfl)
  change Exit.then _ _ _ _ w.drew
  have HN2 : Hid (Net w.drew lab N s) := HN
  have hb2 : Below w.heap.size w w.drew := bl_drew (Below.refl _ _)
  have hz2 : w.drew.heap.size = w.heap.size := rfl
  generalize w.drew = w2 at HN2 hb2 hz2 ⊢
  have d2 : w2.cell? ⟨N, 2, none⟩ = some (.int .i64 s.n0) := ((bcell hb2).1 N 2 HNl.out).trans c2
  have f2 : w2.frozen? ⟨N, 2, none⟩ = false := ((bcell hb2).2 N 2 HNl.out).trans (frozen_of_row w N 2 _ _ hN.out)
  clear c0 c1 c2 c3 c4
  have hk : s.n0 + (s.l0.length - s.n0) = s.l0.length := by omega
  rcases (by omega : many ≤ 0 ∨ (0 < many ∧ many ≤ ((s.l0.length - s.n0 : Nat) : Int)) ∨ (0 < s.l0.length - s.n0 ∧ ((s.l0.length - s.n0 : Nat) : Int) < many) ∨ (¬ 0 < s.l0.length - s.n0 ∧ ((s.l0.length - s.n0 : Nat) : Int) < many)) with hc | ⟨hc0, hc⟩ | ⟨hc0, hc⟩ | ⟨hc0, hc⟩
  · have w63 : IntKind.i64.wrap (s.n0 : Int) = (s.n0 : Int) := IntWalk.i64_in _ (by omega)
    go_wp2_with fail
    all_goals (try (exfalso; omega))
    go_still_tail 11, (by kernel_rfl)
    change wpList _ _ _ _ _ w2.drew
    have HN3 : Hid (Net w2.drew lab N s) := HN2
    have hb3 : Below w.heap.size w w2.drew := bl_drew hb2
    have d2 : w2.drew.cell? ⟨N, 2, none⟩ = some (.int .i64 s.n0) := d2
    have f2 : w2.drew.frozen? ⟨N, 2, none⟩ = false := f2
    have hz3 : w2.drew.heap.size = w.heap.size := hz2
    generalize w2.drew = w3 at hz3 HN3 hb3 d2 f2 ⊢
    have hl3 : N < w3.heap.size := HN3.out.lt
    have HN4 := Lib.hid (HN3.out.set0 (s.n0) (by omega))
    have H3 := Lib.hid hb3
    clear hb2 hb3 HN2
    go_wp2_with fail
    go_ret
    have en : s.n0 + (max 0 (min many ((s.l0.length : Int) - (s.n0 : Int)))).toNat = s.n0 := by omega
    have es : ∀ q, s.to 1 q = { s with n0 := q } := fun _ => rfl
    refine ⟨ret_int (by omega), ?_, ?_, ?_⟩
    · rw [en, es]
      exact HN4.out
    · refine ⟨H3.out.os, H3.out.tape, H3.out.output, by simp; omega, fun g hg hne => ?_⟩
      exact (heap_setCell_other w3 _ g _ (fun e => hne (congrArg some e))).trans (H3.out.block g hg)
    · simp only [World.size_setCell]
      exact hz3
  · obtain ⟨m, rfl⟩ := Int.eq_ofNat_of_zero_le (show 0 ≤ many by omega)
    have w63 : IntKind.i64.wrap ((s.n0 : Int) + (m : Int)) = (s.n0 : Int) + (m : Int) := IntWalk.i64_in _ (by omega)
    go_wp2_with fail
    all_goals (try (exfalso; omega))
    go_still_tail 11, (by kernel_rfl)
    change wpList _ _ _ _ _ w2.drew
    have HN3 : Hid (Net w2.drew lab N s) := HN2
    have hb3 : Below w.heap.size w w2.drew := bl_drew hb2
    have d2 : w2.drew.cell? ⟨N, 2, none⟩ = some (.int .i64 s.n0) := d2
    have f2 : w2.drew.frozen? ⟨N, 2, none⟩ = false := f2
    have hz3 : w2.drew.heap.size = w.heap.size := hz2
    generalize w2.drew = w3 at hz3 HN3 hb3 d2 f2 ⊢
    have hl3 : N < w3.heap.size := HN3.out.lt
    have HN4 := Lib.hid (HN3.out.set0 (s.n0 + m) (by omega))
    have H3 := Lib.hid hb3
    clear hb2 hb3 HN2
    go_wp2_with fail
    go_ret
    have en : s.n0 + (max 0 (min ((m : Nat) : Int) ((s.l0.length : Int) - (s.n0 : Int)))).toNat = s.n0 + m := by omega
    have es : ∀ q, s.to 1 q = { s with n0 := q } := fun _ => rfl
    refine ⟨ret_int (by omega), ?_, ?_, ?_⟩
    · rw [en, es]
      exact HN4.out
    · refine ⟨H3.out.os, H3.out.tape, H3.out.output, by simp; omega, fun g hg hne => ?_⟩
      exact (heap_setCell_other w3 _ g _ (fun e => hne (congrArg some e))).trans (H3.out.block g hg)
    · simp only [World.size_setCell]
      exact hz3
  · have w63 : IntKind.i64.wrap ((s.n0 : Int) + ((s.l0.length - s.n0 : Nat) : Int)) = (s.l0.length : Int) := by rw [IntWalk.i64_in _ (by omega)]; omega
    go_wp2_with fail
    all_goals (try (exfalso; omega))
    go_still_tail 11, (by kernel_rfl)
    change wpList _ _ _ _ _ w2.drew
    have HN3 : Hid (Net w2.drew lab N s) := HN2
    have hb3 : Below w.heap.size w w2.drew := bl_drew hb2
    have d2 : w2.drew.cell? ⟨N, 2, none⟩ = some (.int .i64 s.n0) := d2
    have f2 : w2.drew.frozen? ⟨N, 2, none⟩ = false := f2
    have hz3 : w2.drew.heap.size = w.heap.size := hz2
    generalize w2.drew = w3 at hz3 HN3 hb3 d2 f2 ⊢
    have hl3 : N < w3.heap.size := HN3.out.lt
    have HN4 := Lib.hid (HN3.out.set0 (s.l0.length) (by omega))
    have H3 := Lib.hid hb3
    clear hb2 hb3 HN2
    go_wp2_with fail
    go_ret
    have en : s.n0 + (max 0 (min many ((s.l0.length : Int) - (s.n0 : Int)))).toNat = s.l0.length := by omega
    have es : ∀ q, s.to 1 q = { s with n0 := q } := fun _ => rfl
    refine ⟨ret_int (by omega), ?_, ?_, ?_⟩
    · rw [en, es]
      exact HN4.out
    · refine ⟨H3.out.os, H3.out.tape, H3.out.output, by simp; omega, fun g hg hne => ?_⟩
      exact (heap_setCell_other w3 _ g _ (fun e => hne (congrArg some e))).trans (H3.out.block g hg)
    · simp only [World.size_setCell]
      exact hz3
  · have w63 : IntKind.i64.wrap (s.n0 : Int) = (s.n0 : Int) := IntWalk.i64_in _ (by omega)
    go_wp2_with fail
    all_goals (try (exfalso; omega))
    go_still_tail 11, (by kernel_rfl)
    change wpList _ _ _ _ _ w2.drew
    have HN3 : Hid (Net w2.drew lab N s) := HN2
    have hb3 : Below w.heap.size w w2.drew := bl_drew hb2
    have d2 : w2.drew.cell? ⟨N, 2, none⟩ = some (.int .i64 s.n0) := d2
    have f2 : w2.drew.frozen? ⟨N, 2, none⟩ = false := f2
    have hz3 : w2.drew.heap.size = w.heap.size := hz2
    generalize w2.drew = w3 at hz3 HN3 hb3 d2 f2 ⊢
    have hl3 : N < w3.heap.size := HN3.out.lt
    have HN4 := Lib.hid (HN3.out.set0 (s.n0) (by omega))
    have H3 := Lib.hid hb3
    clear hb2 hb3 HN2
    go_wp2_with fail
    go_ret
    have en : s.n0 + (max 0 (min many ((s.l0.length : Int) - (s.n0 : Int)))).toNat = s.n0 := by omega
    have es : ∀ q, s.to 1 q = { s with n0 := q } := fun _ => rfl
    refine ⟨ret_int (by omega), ?_, ?_, ?_⟩
    · rw [en, es]
      exact HN4.out
    · refine ⟨H3.out.os, H3.out.tape, H3.out.output, by simp; omega, fun g hg hne => ?_⟩
      exact (heap_setCell_other w3 _ g _ (fun e => hne (congrArg some e))).trans (H3.out.block g hg)
    · simp only [World.size_setCell]
      exact hz3
theorem lose_2 (lab : Nat → Nat) (N : Nat) (s : NS) (sd : Int) (many : Int) (hm : -9223372036854775808 ≤ many ∧ many ≤ 9223372036854775807) (w : World) (h : Net w lab N s) (hsd : sd = 2) :
    Calls Try.prog 16 #[.pointer (some ⟨N, 0, none⟩), .int .u8 sd, .int .i64 many] w (losePost lab N s sd many w) := by
  (have HN := Lib.hid h; obtain ⟨v0, v1, M, l1, l2, hN, h4, h5, h6, h7, h8⟩ := h; (have c0 : w.cell? ⟨N, 0, none⟩ = some v0 := (cell_of_row w N 0 _ _ (0, 0) hN).trans rfl; have c1 : w.cell? ⟨N, 1, none⟩ = some v1 := (cell_of_row w N 1 _ _ (0, 0) hN).trans rfl; have c2 : w.cell? ⟨N, 2, none⟩ = some (.int .i64 s.n0) := (cell_of_row w N 2 _ _ (0, 0) hN).trans rfl; have c3 : w.cell? ⟨N, 3, none⟩ = some (.int .i64 s.n1) := (cell_of_row w N 3 _ _ (0, 0) hN).trans rfl; have c4 : w.cell? ⟨N, 4, none⟩ = some (.map (some M)) := (cell_of_row w N 4 _ _ (0, 0) hN).trans rfl); obtain ⟨A0, p0, rfl, r0⟩ := h4.form; obtain ⟨A1, p1, rfl, r1⟩ := h5.form; have m0 := half_len h4; have m1 := half_len h5; have q0 := h4.cap; have q1 := h5.cap; unfold maxLen at m0 m1; have HNl := Lib.hid HN.out.lt; clear h4 h5 h6 r0 r1; replace hN := Lib.hid hN)
  subst hsd
  have e1 : s.half 2 = s.l1 := rfl
  have e0 : s.next 2 = s.n1 := rfl
  have e2 : sideNo 2 = 1 := rfl
  unfold losePost
  rw [e1, e0]
  go_enter Try.func16, Try.ntmps16
  go_wp2_with fail
  refine (side_at N 2 M w (by omega) c4).mono ?_
  rintro e w1 ⟨rfl, rfl⟩
  rw [e2]
  go_wp2_with fail
  obtain ⟨it, hit⟩ : ∃ i, Try.prog.info? 25 = some i := by
    obtain ⟨i, h, _⟩ := Option.map_eq_some_iff.1 (show (Try.prog.info? 25).map (·.size) = some 1 by kernel_rfl)
    exact ⟨i, h⟩
  obtain ⟨B, hB⟩ := run_slice_mid Try.prog 22 25 Try.underlying22 it hit A1 s.l1.length p1 s.n1 (by omega) (by omega)
  clear hit
  go_still (by kernel_rfl)
  change Exit.then _ _ _ _ w.drew
  have HN2 : Hid (Net w.drew lab N s) := HN
  have hb2 : Below w.heap.size w w.drew := bl_drew (Below.refl _ _)
  have hz2 : w.drew.heap.size = w.heap.size := rfl
  generalize w.drew = w2 at HN2 hb2 hz2 ⊢
  have d3 : w2.cell? ⟨N, 3, none⟩ = some (.int .i64 s.n1) := ((bcell hb2).1 N 3 HNl.out).trans c3
  have f3 : w2.frozen? ⟨N, 3, none⟩ = false := ((bcell hb2).2 N 3 HNl.out).trans (frozen_of_row w N 3 _ _ hN.out)
  clear c0 c1 c2 c3 c4
  have hk : s.n1 + (s.l1.length - s.n1) = s.l1.length := by omega
  rcases (by omega : many ≤ 0 ∨ (0 < many ∧ many ≤ ((s.l1.length - s.n1 : Nat) : Int)) ∨ (0 < s.l1.length - s.n1 ∧ ((s.l1.length - s.n1 : Nat) : Int) < many) ∨ (¬ 0 < s.l1.length - s.n1 ∧ ((s.l1.length - s.n1 : Nat) : Int) < many)) with hc | ⟨hc0, hc⟩ | ⟨hc0, hc⟩ | ⟨hc0, hc⟩
  · have w63 : IntKind.i64.wrap (s.n1 : Int) = (s.n1 : Int) := IntWalk.i64_in _ (by omega)
    go_wp2_with fail
    all_goals (try (exfalso; omega))
    go_still_tail 11, (by kernel_rfl)
    change wpList _ _ _ _ _ w2.drew
    have HN3 : Hid (Net w2.drew lab N s) := HN2
    have hb3 : Below w.heap.size w w2.drew := bl_drew hb2
    have d3 : w2.drew.cell? ⟨N, 3, none⟩ = some (.int .i64 s.n1) := d3
    have f3 : w2.drew.frozen? ⟨N, 3, none⟩ = false := f3
    have hz3 : w2.drew.heap.size = w.heap.size := hz2
    generalize w2.drew = w3 at hz3 HN3 hb3 d3 f3 ⊢
    have hl3 : N < w3.heap.size := HN3.out.lt
    have HN4 := Lib.hid (HN3.out.set1 (s.n1) (by omega))
    have H3 := Lib.hid hb3
    clear hb2 hb3 HN2
    go_wp2_with fail
    go_ret
    have en : s.n1 + (max 0 (min many ((s.l1.length : Int) - (s.n1 : Int)))).toNat = s.n1 := by omega
    have es : ∀ q, s.to 2 q = { s with n1 := q } := fun _ => rfl
    refine ⟨ret_int (by omega), ?_, ?_, ?_⟩
    · rw [en, es]
      exact HN4.out
    · refine ⟨H3.out.os, H3.out.tape, H3.out.output, by simp; omega, fun g hg hne => ?_⟩
      exact (heap_setCell_other w3 _ g _ (fun e => hne (congrArg some e))).trans (H3.out.block g hg)
    · simp only [World.size_setCell]
      exact hz3
  · obtain ⟨m, rfl⟩ := Int.eq_ofNat_of_zero_le (show 0 ≤ many by omega)
    have w63 : IntKind.i64.wrap ((s.n1 : Int) + (m : Int)) = (s.n1 : Int) + (m : Int) := IntWalk.i64_in _ (by omega)
    go_wp2_with fail
    all_goals (try (exfalso; omega))
    go_still_tail 11, (by kernel_rfl)
    change wpList _ _ _ _ _ w2.drew
    have HN3 : Hid (Net w2.drew lab N s) := HN2
    have hb3 : Below w.heap.size w w2.drew := bl_drew hb2
    have d3 : w2.drew.cell? ⟨N, 3, none⟩ = some (.int .i64 s.n1) := d3
    have f3 : w2.drew.frozen? ⟨N, 3, none⟩ = false := f3
    have hz3 : w2.drew.heap.size = w.heap.size := hz2
    generalize w2.drew = w3 at hz3 HN3 hb3 d3 f3 ⊢
    have hl3 : N < w3.heap.size := HN3.out.lt
    have HN4 := Lib.hid (HN3.out.set1 (s.n1 + m) (by omega))
    have H3 := Lib.hid hb3
    clear hb2 hb3 HN2
    go_wp2_with fail
    go_ret
    have en : s.n1 + (max 0 (min ((m : Nat) : Int) ((s.l1.length : Int) - (s.n1 : Int)))).toNat = s.n1 + m := by omega
    have es : ∀ q, s.to 2 q = { s with n1 := q } := fun _ => rfl
    refine ⟨ret_int (by omega), ?_, ?_, ?_⟩
    · rw [en, es]
      exact HN4.out
    · refine ⟨H3.out.os, H3.out.tape, H3.out.output, by simp; omega, fun g hg hne => ?_⟩
      exact (heap_setCell_other w3 _ g _ (fun e => hne (congrArg some e))).trans (H3.out.block g hg)
    · simp only [World.size_setCell]
      exact hz3
  · have w63 : IntKind.i64.wrap ((s.n1 : Int) + ((s.l1.length - s.n1 : Nat) : Int)) = (s.l1.length : Int) := by rw [IntWalk.i64_in _ (by omega)]; omega
    go_wp2_with fail
    all_goals (try (exfalso; omega))
    go_still_tail 11, (by kernel_rfl)
    change wpList _ _ _ _ _ w2.drew
    have HN3 : Hid (Net w2.drew lab N s) := HN2
    have hb3 : Below w.heap.size w w2.drew := bl_drew hb2
    have d3 : w2.drew.cell? ⟨N, 3, none⟩ = some (.int .i64 s.n1) := d3
    have f3 : w2.drew.frozen? ⟨N, 3, none⟩ = false := f3
    have hz3 : w2.drew.heap.size = w.heap.size := hz2
    generalize w2.drew = w3 at hz3 HN3 hb3 d3 f3 ⊢
    have hl3 : N < w3.heap.size := HN3.out.lt
    have HN4 := Lib.hid (HN3.out.set1 (s.l1.length) (by omega))
    have H3 := Lib.hid hb3
    clear hb2 hb3 HN2
    go_wp2_with fail
    go_ret
    have en : s.n1 + (max 0 (min many ((s.l1.length : Int) - (s.n1 : Int)))).toNat = s.l1.length := by omega
    have es : ∀ q, s.to 2 q = { s with n1 := q } := fun _ => rfl
    refine ⟨ret_int (by omega), ?_, ?_, ?_⟩
    · rw [en, es]
      exact HN4.out
    · refine ⟨H3.out.os, H3.out.tape, H3.out.output, by simp; omega, fun g hg hne => ?_⟩
      exact (heap_setCell_other w3 _ g _ (fun e => hne (congrArg some e))).trans (H3.out.block g hg)
    · simp only [World.size_setCell]
      exact hz3
  · have w63 : IntKind.i64.wrap (s.n1 : Int) = (s.n1 : Int) := IntWalk.i64_in _ (by omega)
    go_wp2_with fail
    all_goals (try (exfalso; omega))
    go_still_tail 11, (by kernel_rfl)
    change wpList _ _ _ _ _ w2.drew
    have HN3 : Hid (Net w2.drew lab N s) := HN2
    have hb3 : Below w.heap.size w w2.drew := bl_drew hb2
    have d3 : w2.drew.cell? ⟨N, 3, none⟩ = some (.int .i64 s.n1) := d3
    have f3 : w2.drew.frozen? ⟨N, 3, none⟩ = false := f3
    have hz3 : w2.drew.heap.size = w.heap.size := hz2
    generalize w2.drew = w3 at hz3 HN3 hb3 d3 f3 ⊢
    have hl3 : N < w3.heap.size := HN3.out.lt
    have HN4 := Lib.hid (HN3.out.set1 (s.n1) (by omega))
    have H3 := Lib.hid hb3
    clear hb2 hb3 HN2
    go_wp2_with fail
    go_ret
    have en : s.n1 + (max 0 (min many ((s.l1.length : Int) - (s.n1 : Int)))).toNat = s.n1 := by omega
    have es : ∀ q, s.to 2 q = { s with n1 := q } := fun _ => rfl
    refine ⟨ret_int (by omega), ?_, ?_, ?_⟩
    · rw [en, es]
      exact HN4.out
    · refine ⟨H3.out.os, H3.out.tape, H3.out.output, by simp; omega, fun g hg hne => ?_⟩
      exact (heap_setCell_other w3 _ g _ (fun e => hne (congrArg some e))).trans (H3.out.block g hg)
    · simp only [World.size_setCell]
      exact hz3
theorem lose_0 (lab : Nat → Nat) (N : Nat) (s : NS) (sd : Int) (many : Int) (w : World) (h : Net w lab N s) (hs : 0 ≤ sd ∧ sd ≤ 255) (h1 : ¬ sd = 1) (h2 : ¬ sd = 2) :
    Calls Try.prog 16 #[.pointer (some ⟨N, 0, none⟩), .int .u8 sd, .int .i64 many] w (losePost lab N s sd many w) := by
  (have HN := Lib.hid h; obtain ⟨v0, v1, M, l1, l2, hN, h4, h5, h6, h7, h8⟩ := h; (have c0 : w.cell? ⟨N, 0, none⟩ = some v0 := (cell_of_row w N 0 _ _ (0, 0) hN).trans rfl; have c1 : w.cell? ⟨N, 1, none⟩ = some v1 := (cell_of_row w N 1 _ _ (0, 0) hN).trans rfl; have c2 : w.cell? ⟨N, 2, none⟩ = some (.int .i64 s.n0) := (cell_of_row w N 2 _ _ (0, 0) hN).trans rfl; have c3 : w.cell? ⟨N, 3, none⟩ = some (.int .i64 s.n1) := (cell_of_row w N 3 _ _ (0, 0) hN).trans rfl; have c4 : w.cell? ⟨N, 4, none⟩ = some (.map (some M)) := (cell_of_row w N 4 _ _ (0, 0) hN).trans rfl); obtain ⟨A0, p0, rfl, r0⟩ := h4.form; obtain ⟨A1, p1, rfl, r1⟩ := h5.form; have m0 := half_len h4; have m1 := half_len h5; have q0 := h4.cap; have q1 := h5.cap; unfold maxLen at m0 m1; have HNl := Lib.hid HN.out.lt; clear h4 h5 h6 r0 r1; replace hN := Lib.hid hN)
  have e1 : s.half sd = [] := by simp [NS.half, h1, h2]
  have e0 : s.next sd = 0 := by simp [NS.next, h1, h2]
  have e2 : sideNo sd = -1 := by simp [sideNo, h1, h2]
  have e4 : ∀ n, s.to sd n = s := fun n => by simp [NS.to, h1, h2]
  unfold losePost
  rw [e1, e0, e4]
  go_enter Try.func16, Try.ntmps16
  go_wp2_with fail
  refine (side_at N sd M w hs c4).mono ?_
  rintro e w1 ⟨rfl, rfl⟩
  rw [e2]
  go_wp2_with fail
  go_ret
  refine ⟨ret_int (by simp; omega), HN.out, ⟨rfl, rfl, rfl, Nat.le_refl _, fun _ _ _ => rfl⟩, rfl⟩
theorem lose_any (lab : Nat → Nat) (N : Nat) (s : NS) (sd : Int) (many : Int) (hm : -9223372036854775808 ≤ many ∧ many ≤ 9223372036854775807) (w : World) (h : Net w lab N s) (hs : 0 ≤ sd ∧ sd ≤ 255) :
    Calls Try.prog 16 #[.pointer (some ⟨N, 0, none⟩), .int .u8 sd, .int .i64 many] w (losePost lab N s sd many w) := by
  by_cases h1 : sd = 1
  · exact lose_1 lab N s sd many hm w h h1
  · by_cases h2 : sd = 2
    · exact lose_2 lab N s sd many hm w h h2
    · exact lose_0 lab N s sd many w h hs h1 h2
end Go.Proofs.Ythebhbcfacoknaa
