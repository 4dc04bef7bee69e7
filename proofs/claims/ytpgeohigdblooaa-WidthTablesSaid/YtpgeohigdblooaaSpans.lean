/- What is proved: what the functions of package wayfarerref12, and In of package width, do when they are called; conditions: the slices read as they are said to. -/
import Derived.Test.YtpgeohigdblooaaText
set_option linter.unusedSimpArgs false
set_option linter.unusedVariables false
namespace Go.Proofs.Ytpgeohigdblooaa
open Go.RowKit
set_option maxRecDepth 100000
set_option maxHeartbeats 1000000
/-- A slice of pairs of numbers (two cells each), read. -/
def RdS (w : World) (A : Option Addr) (n : Nat) (T : List (Int × Int)) : Prop :=
  T.length = n ∧ (0 < n → ∃ b off, A = some ⟨b, off, none⟩ ∧ ∀ j, j < n → w.cell? ⟨b, off + j * 2, none⟩ = some (.int .i32 (T.getD j (0, 0)).1) ∧ w.cell? ⟨b, off + j * 2 + 1, none⟩ = some (.int .i32 (T.getD j (0, 0)).2))
section
variable {w w1 : World} {A : Option Addr} {n : Nat} {T : List (Int × Int)}
theorem RdS.len (h : RdS w A n T) : T.length = n := h.1
theorem RdS.lt_ (h : RdS w A n T) {b off : Nat} (hn : 0 < n) (hA : A = some ⟨b, off, none⟩) : b < w.heap.size := by
  obtain ⟨b', off', hA', hc⟩ := h.2 hn
  rw [hA] at hA'
  simp only [Option.some.injEq, Addr.mk.injEq] at hA'
  obtain ⟨rfl, rfl, _⟩ := hA'
  exact block_lt_of_cell (hc 0 hn).1
theorem RdS.keep (h : RdS w A n T) (hk : ∀ b o, b < w.heap.size → w1.cell? ⟨b, o, none⟩ = w.cell? ⟨b, o, none⟩) : RdS w1 A n T := by
  refine ⟨h.1, fun hn => ?_⟩
  obtain ⟨b, off, hA, hc⟩ := h.2 hn
  have hb := h.lt_ hn hA
  exact ⟨b, off, hA, fun j hj => ⟨(hk _ _ hb).trans (hc j hj).1, (hk _ _ hb).trans (hc j hj).2⟩⟩
theorem RdS.below (h : RdS w A n T) (hb : Below w.heap.size w w1) : RdS w1 A n T := h.keep (bcell hb).1
theorem RdS.table (hn : T.length = n) {g : Nat} {t : TypeId} (hg : w.heap[g]? = some (.cells (flatC T) t (0, 0))) : RdS w (some ⟨g, 0, none⟩) n T := by
  refine ⟨hn, fun _ => ⟨g, 0, rfl, fun j hj => ?_⟩⟩
  rw [Nat.zero_add]
  exact ⟨(cell_of_row w g _ _ _ (0, 0) hg).trans (by rw [flat_lo T j (by omega)]), (cell_of_row w g _ _ _ (0, 0) hg).trans (by rw [flat_hi T j (by omega)])⟩
end
def inP (c : Int) (p : Int × Int) : Bool := decide (p.1 ≤ c) && decide (c ≤ p.2)
theorem inT_cons (T : List (Int × Int)) (c : Int) : inT T c = T.any (inP c) := rfl
theorem inT_true {T : List (Int × Int)} {c : Int} (k : Nat) (hk : k < T.length) (h1 : (T.getD k (0, 0)).1 ≤ c) (h2 : c ≤ (T.getD k (0, 0)).2) : inT T c = true := by
  rw [inT_cons, List.any_eq_true]
  refine ⟨T.getD k (0, 0), ?_, by unfold inP; rw [decide_eq_true h1, decide_eq_true h2]; rfl⟩
  rw [List.getD_eq_getElem?_getD, List.getElem?_eq_getElem hk]
  exact List.getElem_mem _
theorem inT_false {T : List (Int × Int)} {c : Int} (h : ∀ k, k < T.length → c < (T.getD k (0, 0)).1 ∨ (T.getD k (0, 0)).2 < c) : inT T c = false := by
  rw [inT_cons, List.any_eq_false]
  intro p hp
  obtain ⟨k, hk, rfl⟩ := List.mem_iff_getElem.1 hp
  have := h k hk
  rw [List.getD_eq_getElem?_getD, List.getElem?_eq_getElem hk] at this
  simp only [Option.getD_some] at this
  simp [inP]
  omega
theorem rin_any (A : Option Addr) (n cap : Nat) (T : List (Int × Int)) (c : Int) (w : World) (h : RdS w A n T) (hn : n ≤ 140737488355328) :
    Calls Try.prog 11 #[.slice A n cap, .int .i32 c] w fun e w' => e = .returned (.bool (inT T c)) ∧ w = w' := by
  have H := Lib.hid h
  have HL := Lib.hid h.len
  clear h
  go_enter Try.func11, Try.ntmps11
  go_wp2
  go_loop [5] (fun i => ∃ k : Nat, k ≤ n ∧ i = .int .i64 k ∧ Hid (∀ j, j < k → c < (T.getD j (0, 0)).1 ∨ (T.getD j (0, 0)).2 < c)) (fun i => n - (intOf i).toNat)
  case atStart => exact ⟨0, Nat.zero_le _, rfl, fun j hj => absurd hj (by omega)⟩
  case round =>
    obtain ⟨k, hk, rfl, HI⟩ := hrel
    by_cases hlt : k < n
    · obtain ⟨b, off, rfl, hc⟩ := H.out.2 (by omega)
      obtain ⟨c0, c1⟩ := hc k hlt
      clear hc
      generalize hx : (T.getD k (0, 0)).1 = x at *
      generalize hy : (T.getD k (0, 0)).2 = y at *
      have HX := Lib.hid hx
      have HY := Lib.hid hy
      clear hx hy
      by_cases h1 : x ≤ c
      · by_cases h2 : c ≤ y
        · go_wp2
          go_ret
          exact ⟨ret_bool (inT_true k (by rw [HL.out]; exact hlt) (by rw [HX.out]; exact h1) (by rw [HY.out]; exact h2)).symm, rfl⟩
        · go_wp2
          go_round
          case rel =>
            refine ⟨k + 1, by omega, by go_num, fun j hj => ?_⟩
            rcases Nat.lt_or_eq_of_le (Nat.le_of_lt_succ hj) with h | rfl
            · exact HI.out j h
            · exact .inr (by rw [HY.out]; omega)
          case measure => simp [intOf]; omega
      · go_wp2
        go_round
        case rel =>
          refine ⟨k + 1, by omega, by go_num, fun j hj => ?_⟩
          rcases Nat.lt_or_eq_of_le (Nat.le_of_lt_succ hj) with h | rfl
          · exact HI.out j h
          · exact .inl (by rw [HX.out]; omega)
        case measure => simp [intOf]; omega
    · go_wp2
      go_ret
      exact ⟨ret_bool (inT_false fun j hj => HI.out j (by rw [HL.out] at hj; omega)).symm, rfl⟩
theorem rzero_any (w : World) : Calls Try.prog 19 #[] w fun e w' => e = .returned (.slice (some ⟨w.heap.size, 0, none⟩) 26 26) ∧ w.alloc (.cells (flatC zeroT) 36) = w' := by
  go_enter Try.func19, Try.ntmps19
  refine wp_seq (wp_region_list (wpList_run 1 w (by kernel_rfl) (wpList_nil ?_)))
  refine wp_seq (wp_region_list (wpList_run 28 (w.alloc (.cells (flatC zeroT) 36)) (by kernel_rfl) (wpList_nil ?_)))
  refine wp_ret ?_
  exact bodyPost_ret (v := .slice (some ⟨w.heap.size, 0, none⟩) 26 26) (by kernel_rfl) (by kernel_rfl) ⟨rfl, rfl⟩
theorem rwide_any (w : World) : Calls Try.prog 20 #[] w fun e w' => e = .returned (.slice (some ⟨w.heap.size, 0, none⟩) 37 37) ∧ w.alloc (.cells (flatC wideT) 36) = w' := by
  go_enter Try.func20, Try.ntmps20
  refine wp_seq (wp_region_list (wpList_run 1 w (by kernel_rfl) (wpList_nil ?_)))
  refine wp_seq (wp_region_list (wpList_run 39 (w.alloc (.cells (flatC wideT) 36)) (by kernel_rfl) (wpList_nil ?_)))
  refine wp_ret ?_
  exact bodyPost_ret (v := .slice (some ⟨w.heap.size, 0, none⟩) 37 37) (by kernel_rfl) (by kernel_rfl) ⟨rfl, rfl⟩
theorem zero_len : zeroT.length = 26 := rfl
theorem wide_len : wideT.length = 37 := rfl
theorem rof_any (c : Int) (w : World) : Calls Try.prog 9 #[.int .i32 c] w fun e w' => e = .returned (.int .i64 (widthOf c)) ∧ Below w.heap.size w w' := by
  have hcases : (c < 32 ∨ (32 ≤ c ∧ 127 ≤ c ∧ c ≤ 159) ∨ (159 < c ∧ 1114111 < c) ∨ (159 < c ∧ c ≤ 1114111 ∧ 55296 ≤ c ∧ c ≤ 57343)) ∨
      ((32 ≤ c ∧ c < 127) ∨ (159 < c ∧ c < 55296) ∨ (57343 < c ∧ c ≤ 1114111)) := by omega
  rcases hcases with h | h
  · have hb : badC c = true := by simp [badC]; omega
    have HF : widthOf c = -1 := by simp [widthOf, hb]
    have HF := Lib.hid HF
    clear hb
    rcases h with h | ⟨h1, h2, h3⟩ | ⟨h1, h2⟩ | ⟨h1, h2, h3, h4⟩
    all_goals
      go_enter Try.func9, Try.ntmps9
      go_wp2_with fail
      go_ret
      exact ⟨ret_int HF.out.symm, Below.refl _ _⟩
  · have hb : badC c = false := by simp [badC]; omega
    rcases hz : inT zeroT c with _ | _
    · have HW : widthOf c = if inT wideT c then 2 else 1 := by simp [widthOf, hb, hz]
      have HW := Lib.hid HW
      have HZ := Lib.hid hz
      clear hb hz
      rcases h with ⟨h1, h2⟩ | ⟨h1, h2⟩ | ⟨h1, h2⟩
      all_goals
        go_enter Try.func9, Try.ntmps9
        go_wp2_with fail
        refine (rzero_any _).mono ?_
        rintro e w1 ⟨rfl, rfl⟩
        go_wp2_with fail
        refine (rin_any _ 26 26 zeroT c _ (RdS.table zero_len (t := 36) (heap_alloc_last w _)) (by omega)).mono ?_
        rw [HZ.out]
        rintro e w1 ⟨rfl, rfl⟩
        go_wp2_with fail
        refine (rwide_any _).mono ?_
        rintro e w1 ⟨rfl, rfl⟩
        go_wp2_with fail
        refine (rin_any _ 37 37 wideT c _ (RdS.table wide_len (t := 36) ?_) (by omega)).mono ?_
        · (simp only [heap_setRow_if, heap_alloc_if, heap_setCell_if, World.size_alloc, size_setRow, World.size_setCell]; simp)
        rcases hw : inT wideT c with _ | _
        all_goals
          rintro e w1 ⟨rfl, rfl⟩
          have HX := Lib.hid hw
          clear hw
          go_wp2_with fail
          go_ret
          refine ⟨ret_int ?_, ?_⟩
          · rw [HW.out, HX.out]; rfl
          · (repeat' (first | (with_reducible exact Below.refl _ _) | (with_reducible assumption) | (with_reducible refine Below.alloc ?_ ?_ _) | (with_reducible refine below_setRow ?_ ?_ _) | (with_reducible refine bl_drew ?_) | (with_reducible refine bl_drewN ?_ _) | (with_reducible refine Below.setCell ?_ ?_ _) | (with_reducible refine bl_then ?_ ?_ hb) | (with_reducible refine bl_then ?_ ?_ hb1) | (with_reducible refine bl_then ?_ ?_ hb2) | (with_reducible refine bl_then ?_ ?_ hb3) | (with_reducible refine bl_then ?_ ?_ hb4) | (with_reducible refine bl_then ?_ ?_ hb5) | (with_reducible refine bl_then ?_ ?_ hb6) | (with_reducible refine bl_then ?_ ?_ hb7) | (with_reducible refine bl_then ?_ ?_ hb8) | (with_reducible exact Nat.le_refl _) | omega | (simp only [World.size_alloc, World.size_setCell, World.size_drew, size_setRow]; omega) | (simp; omega) | (simp; done)))
    · have HF : widthOf c = 0 := by simp [widthOf, hb, hz]
      have HF := Lib.hid HF
      have HZ := Lib.hid hz
      clear hb hz
      rcases h with ⟨h1, h2⟩ | ⟨h1, h2⟩ | ⟨h1, h2⟩
      all_goals
        go_enter Try.func9, Try.ntmps9
        go_wp2_with fail
        refine (rzero_any _).mono ?_
        rintro e w1 ⟨rfl, rfl⟩
        go_wp2_with fail
        refine (rin_any _ 26 26 zeroT c _ (RdS.table zero_len (t := 36) (heap_alloc_last w _)) (by omega)).mono ?_
        rw [HZ.out]
        rintro e w1 ⟨rfl, rfl⟩
        go_wp2_with fail
        go_ret
        refine ⟨ret_int HF.out.symm, ?_⟩
        (repeat' (first | (with_reducible exact Below.refl _ _) | (with_reducible assumption) | (with_reducible refine Below.alloc ?_ ?_ _) | (with_reducible refine below_setRow ?_ ?_ _) | (with_reducible refine bl_drew ?_) | (with_reducible refine bl_drewN ?_ _) | (with_reducible refine Below.setCell ?_ ?_ _) | (with_reducible refine bl_then ?_ ?_ hb) | (with_reducible refine bl_then ?_ ?_ hb1) | (with_reducible refine bl_then ?_ ?_ hb2) | (with_reducible refine bl_then ?_ ?_ hb3) | (with_reducible refine bl_then ?_ ?_ hb4) | (with_reducible refine bl_then ?_ ?_ hb5) | (with_reducible refine bl_then ?_ ?_ hb6) | (with_reducible refine bl_then ?_ ?_ hb7) | (with_reducible refine bl_then ?_ ?_ hb8) | (with_reducible exact Nat.le_refl _) | omega | (simp only [World.size_alloc, World.size_setCell, World.size_drew, size_setRow]; omega) | (simp; omega) | (simp; done)))
theorem rtext_any (A : Option Addr) (n cap : Nat) (xs : List Int) (w : World) (h : RdI w .i32 A n xs) (hn : n ≤ 140737488355328) :
    Calls Try.prog 14 #[.slice A n cap] w fun e w' => e = .returned (.int .i64 (textW xs)) ∧ Below w.heap.size w w' := by
  have H := Lib.hid h
  have HL := Lib.hid h.len
  clear h
  go_enter Try.func14, Try.ntmps14
  go_wp2
  go_loopw [3, 4] (fun s i wr => ∃ k : Nat, k ≤ n ∧ i = .int .i64 k ∧ s = .int .i64 (textW (xs.take k)) ∧ Hid (Below w.heap.size w wr)) (fun _ i _ => n - (intOf i).toNat)
  case atStart => exact ⟨0, Nat.zero_le _, rfl, rfl, Below.refl _ _⟩
  case round =>
    obtain ⟨k, hk, rfl, rfl, HB⟩ := hrel
    have hr := textW_range (xs.take k)
    have hl : (xs.take k).length ≤ k := List.length_take_le _ _
    by_cases hlt : k < n
    · obtain ⟨b, off, rfl, hc⟩ := H.out.2 (by omega)
      have hcell : wr.cell? ⟨b, off + k, none⟩ = some (.int .i32 (xs.getD k 0)) := ((bcell HB.out).1 b _ (H.out.lt_ (by omega) rfl)).trans (hc k hlt)
      clear hc
      generalize hx : xs.getD k 0 = x at *
      have HX := Lib.hid hx
      clear hx
      have hw := width_range x
      go_wp2_with fail
      refine (rof_any x _).mono ?_
      rintro e w' ⟨rfl, hb⟩
      have HB2 := Lib.hid (bl_then HB.out (HB.out.size) hb)
      clear hb
      go_wp2_with fail
      go_roundw
      case rel =>
        refine ⟨k + 1, by omega, by go_num, ?_, HB2.out⟩
        rw [take_succ_getD xs k (by rw [HL.out]; exact hlt), HX.out, textW_snoc]
        congr 2
        omega
      case measure => simp [intOf]; omega
    · go_wp2
      go_ret
      exact ⟨ret_int (by rw [List.take_of_length_le (by rw [HL.out]; omega)]), HB.out⟩
end Go.Proofs.Ytpgeohigdblooaa
