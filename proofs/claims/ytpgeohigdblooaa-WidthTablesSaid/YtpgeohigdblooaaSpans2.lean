/- What is proved: what In, spans and Tables of package width do when they are called; conditions: the slices read as they are said to. -/
import Derived.Test.YtpgeohigdblooaaSpans
set_option linter.unusedSimpArgs false
set_option linter.unusedVariables false
namespace Go.Proofs.Ytpgeohigdblooaa
open Go.RowKit
set_option maxRecDepth 100000
set_option maxHeartbeats 1000000
theorem in1_any (lo hi c : Int) (g : Nat) (w : World) (h : w.cell? ⟨g, 0, none⟩ = some (.int .i32 c)) (hg : g < w.heap.size) :
    Calls Try.prog 22 #[.agg #[.int .i32 lo, .int .i32 hi], .pointer (some ⟨g, 0, none⟩)] w fun e w' => e = .returned (.bool (inP c (lo, hi))) ∧ Below w.heap.size w w' := by
  by_cases h1 : lo ≤ c
  · go_enter Try.func22, Try.ntmps22
    go_wp2_with fail
    go_ret
    exact ⟨ret_bool (by simp [inP, h1]), by (repeat' (first | (with_reducible exact Below.refl _ _) | (with_reducible assumption) | (with_reducible refine Below.alloc ?_ ?_ _) | (with_reducible refine below_setRow ?_ ?_ _) | (with_reducible refine bl_drew ?_) | (with_reducible refine bl_drewN ?_ _) | (with_reducible refine Below.setCell ?_ ?_ _) | (with_reducible refine bl_then ?_ ?_ hb) | (with_reducible refine bl_then ?_ ?_ hb1) | (with_reducible refine bl_then ?_ ?_ hb2) | (with_reducible refine bl_then ?_ ?_ hb3) | (with_reducible refine bl_then ?_ ?_ hb4) | (with_reducible refine bl_then ?_ ?_ hb5) | (with_reducible refine bl_then ?_ ?_ hb6) | (with_reducible refine bl_then ?_ ?_ hb7) | (with_reducible refine bl_then ?_ ?_ hb8) | (with_reducible exact Nat.le_refl _) | omega | (simp only [World.size_alloc, World.size_setCell, World.size_drew, size_setRow]; omega) | (simp; omega) | (simp; done)))⟩
  · go_enter Try.func22, Try.ntmps22
    go_wp2_with fail
    go_ret
    exact ⟨ret_bool (by simp [inP]; omega), by (repeat' (first | (with_reducible exact Below.refl _ _) | (with_reducible assumption) | (with_reducible refine Below.alloc ?_ ?_ _) | (with_reducible refine below_setRow ?_ ?_ _) | (with_reducible refine bl_drew ?_) | (with_reducible refine bl_drewN ?_ _) | (with_reducible refine Below.setCell ?_ ?_ _) | (with_reducible refine bl_then ?_ ?_ hb) | (with_reducible refine bl_then ?_ ?_ hb1) | (with_reducible refine bl_then ?_ ?_ hb2) | (with_reducible refine bl_then ?_ ?_ hb3) | (with_reducible refine bl_then ?_ ?_ hb4) | (with_reducible refine bl_then ?_ ?_ hb5) | (with_reducible refine bl_then ?_ ?_ hb6) | (with_reducible refine bl_then ?_ ?_ hb7) | (with_reducible refine bl_then ?_ ?_ hb8) | (with_reducible exact Nat.le_refl _) | omega | (simp only [World.size_alloc, World.size_setCell, World.size_drew, size_setRow]; omega) | (simp; omega) | (simp; done)))⟩
theorem index_any (A : Option Addr) (n cap : Nat) (T : List (Int × Int)) (c : Int) (g : Nat) (w : World) (h : RdS w A n T) (hn : n ≤ 140737488355328) (hc : w.cell? ⟨g, 0, none⟩ = some (.int .i32 c)) (hg : g < w.heap.size) :
    Calls Try.prog 24 #[.slice A n cap, .func (.func 22) #[] #[.pointer (some ⟨g, 0, none⟩)]] w fun e w' => (∃ r : Int, e = .returned (.int .i64 r) ∧ decide (0 ≤ r) = inT T c) ∧ Below w.heap.size w w' := by
  have H := Lib.hid h
  have HL := Lib.hid h.len
  have HC := Lib.hid hc
  clear h hc
  go_enter Try.func24, Try.ntmps24
  go_wp2_with fail
  go_loopw [8] (fun i wr => ∃ k : Nat, k ≤ n ∧ i = .int .i64 k ∧ Hid (∀ j, j < k → inP c (T.getD j (0, 0)) = false) ∧ Hid (Below w.heap.size w wr)) (fun i _ => n - (intOf i).toNat)
  case atStart => exact ⟨0, Nat.zero_le _, rfl, fun j hj => absurd hj (by omega), Below.refl _ _⟩
  case round =>
    obtain ⟨k, hk, rfl, HI, HB⟩ := hrel
    by_cases hlt : k < n
    · obtain ⟨b, off, rfl, hc⟩ := H.out.2 (by omega)
      have hbl := H.out.lt_ (by omega) rfl
      have c0 := ((bcell HB.out).1 b _ hbl).trans (hc k hlt).1
      have c1 := ((bcell HB.out).1 b _ hbl).trans (hc k hlt).2
      clear hc
      generalize hx : T.getD k (0, 0) = x at *
      obtain ⟨x, y⟩ := x
      have HX := Lib.hid hx
      clear hx
      simp only at c0 c1
      go_wp2_with fail
      refine (in1_any x y c g _ (((bcell HB.out).1 g _ hg).trans HC.out) (by have := HB.out.size; omega)).mono ?_
      rintro e w' ⟨rfl, hb⟩
      have HB2 := Lib.hid (bl_then HB.out (HB.out.size) hb)
      clear hb
      rcases hp : inP c (x, y) with _ | _
      all_goals
        have HP := Lib.hid hp
        clear hp
        go_wp2_with fail
      · go_roundw
        case rel =>
          refine ⟨k + 1, by omega, by go_num, fun j hj => ?_, HB2.out⟩
          rcases Nat.lt_or_eq_of_le (Nat.le_of_lt_succ hj) with h | rfl
          · exact HI.out j h
          · rw [HX.out]; exact HP.out
        case measure => simp [intOf]; omega
      · go_ret
        refine ⟨⟨_, rfl, ?_⟩, HB2.out⟩
        have h1 := HP.out
        simp only [inP, Bool.and_eq_true, decide_eq_true_eq] at h1
        rw [inT_true k (by rw [HL.out]; exact hlt) (by rw [HX.out]; exact h1.1) (by rw [HX.out]; exact h1.2)]
        simp
    · go_wp2_with fail
      go_ret
      refine ⟨⟨_, rfl, ?_⟩, HB.out⟩
      rw [inT_false fun j hj => ?_]
      · simp
      have h1 := HI.out j (by rw [HL.out] at hj; omega)
      simp [inP] at h1
      simp
      omega
theorem contains_any (A : Option Addr) (n cap : Nat) (T : List (Int × Int)) (c : Int) (g : Nat) (w : World) (h : RdS w A n T) (hn : n ≤ 140737488355328) (hc : w.cell? ⟨g, 0, none⟩ = some (.int .i32 c)) (hg : g < w.heap.size) :
    Calls Try.prog 21 #[.slice A n cap, .func (.func 22) #[] #[.pointer (some ⟨g, 0, none⟩)]] w fun e w' => e = .returned (.bool (inT T c)) ∧ Below w.heap.size w w' := by
  have H := Lib.hid h
  have HC := Lib.hid hc
  clear h hc
  go_enter Try.func21, Try.ntmps21
  go_wp2_with fail
  refine (index_any A n cap T c g _ H.out hn HC.out hg).mono ?_
  rintro e w1 ⟨⟨r, rfl, hr⟩, hb1⟩
  have HR := Lib.hid hr
  clear hr
  go_wp2_with fail
  go_ret
  exact ⟨ret_bool (by rw [← HR.out]), by (repeat' (first | (with_reducible exact Below.refl _ _) | (with_reducible assumption) | (with_reducible refine Below.alloc ?_ ?_ _) | (with_reducible refine below_setRow ?_ ?_ _) | (with_reducible refine bl_drew ?_) | (with_reducible refine bl_drewN ?_ _) | (with_reducible refine Below.setCell ?_ ?_ _) | (with_reducible refine bl_then ?_ ?_ hb) | (with_reducible refine bl_then ?_ ?_ hb1) | (with_reducible refine bl_then ?_ ?_ hb2) | (with_reducible refine bl_then ?_ ?_ hb3) | (with_reducible refine bl_then ?_ ?_ hb4) | (with_reducible refine bl_then ?_ ?_ hb5) | (with_reducible refine bl_then ?_ ?_ hb6) | (with_reducible refine bl_then ?_ ?_ hb7) | (with_reducible refine bl_then ?_ ?_ hb8) | (with_reducible exact Nat.le_refl _) | omega | (simp only [World.size_alloc, World.size_setCell, World.size_drew, size_setRow]; omega) | (simp; omega) | (simp; done)))⟩
theorem in_any (A : Option Addr) (n cap : Nat) (T : List (Int × Int)) (c : Int) (w : World) (h : RdS w A n T) (hn : n ≤ 140737488355328) :
    Calls Try.prog 10 #[.slice A n cap, .int .i32 c] w fun e w' => e = .returned (.bool (inT T c)) ∧ Below w.heap.size w w' := by
  have H := Lib.hid h
  clear h
  go_enter Try.func10, Try.ntmps10
  go_wp2_with fail
  refine (contains_any A n cap T c w.heap.size _ (H.out.below (by (repeat' (first | (with_reducible exact Below.refl _ _) | (with_reducible assumption) | (with_reducible refine Below.alloc ?_ ?_ _) | (with_reducible refine below_setRow ?_ ?_ _) | (with_reducible refine bl_drew ?_) | (with_reducible refine bl_drewN ?_ _) | (with_reducible refine Below.setCell ?_ ?_ _) | (with_reducible refine bl_then ?_ ?_ hb) | (with_reducible refine bl_then ?_ ?_ hb1) | (with_reducible refine bl_then ?_ ?_ hb2) | (with_reducible refine bl_then ?_ ?_ hb3) | (with_reducible refine bl_then ?_ ?_ hb4) | (with_reducible refine bl_then ?_ ?_ hb5) | (with_reducible refine bl_then ?_ ?_ hb6) | (with_reducible refine bl_then ?_ ?_ hb7) | (with_reducible refine bl_then ?_ ?_ hb8) | (with_reducible exact Nat.le_refl _) | omega | (simp only [World.size_alloc, World.size_setCell, World.size_drew, size_setRow]; omega) | (simp; omega) | (simp; done))))) hn (by go_simp) (by go_simp)).mono ?_
  rintro e w1 ⟨rfl, hb1⟩
  go_wp2_with fail
  go_ret
  exact ⟨rfl, by (repeat' (first | (with_reducible exact Below.refl _ _) | (with_reducible assumption) | (with_reducible refine Below.alloc ?_ ?_ _) | (with_reducible refine below_setRow ?_ ?_ _) | (with_reducible refine bl_drew ?_) | (with_reducible refine bl_drewN ?_ _) | (with_reducible refine Below.setCell ?_ ?_ _) | (with_reducible refine bl_then ?_ ?_ hb) | (with_reducible refine bl_then ?_ ?_ hb1) | (with_reducible refine bl_then ?_ ?_ hb2) | (with_reducible refine bl_then ?_ ?_ hb3) | (with_reducible refine bl_then ?_ ?_ hb4) | (with_reducible refine bl_then ?_ ?_ hb5) | (with_reducible refine bl_then ?_ ?_ hb6) | (with_reducible refine bl_then ?_ ?_ hb7) | (with_reducible refine bl_then ?_ ?_ hb8) | (with_reducible exact Nat.le_refl _) | omega | (simp only [World.size_alloc, World.size_setCell, World.size_drew, size_setRow]; omega) | (simp; omega) | (simp; done)))⟩
def flatL (T : List (Int × Int)) : List Value := T.flatMap fun p => [Value.int .i32 p.1, Value.int .i32 p.2]
theorem flatL_len (T : List (Int × Int)) : (flatL T).length = T.length * 2 := by
  induction T with
  | nil => rfl
  | cons p r ih => simp only [flatL, List.flatMap_cons, List.length_append, List.length_cons, List.length_nil] at *; omega
theorem take_succ_P (T : List (Int × Int)) (k : Nat) (h : k < T.length) : flatL (T.take (k + 1)) = flatL (T.take k) ++ [.int .i32 (T.getD k (0, 0)).1, .int .i32 (T.getD k (0, 0)).2] := by
  have e := List.take_succ_eq_append_getElem h
  unfold flatL
  rw [e, List.flatMap_append]; simp [ List.getD_eq_getElem?_getD, List.getElem?_eq_getElem h]
theorem info_span : (Try.prog.info? 36).map (fun i => (i.zero, i.size, i.bytes)) = some (some (.agg #[.int .i32 0, .int .i32 0]), 2, 8) := by kernel_rfl
theorem spans_any (A : Option Addr) (n : Nat) (T : List (Int × Int)) (w : World) (h : RdS w A n T) (hn : n ≤ 1000) :
    Calls Try.prog 23 #[.slice A n n] w fun e w' => ∃ v, e = .returned v ∧ w'.ownsRow w.heap.size 36 2 v n (flatL T) ∧ Below w.heap.size w w' := by
  have H := Lib.hid h
  have HL := Lib.hid h.len
  clear h
  obtain ⟨i0, hi, hz0, hz1, hz2⟩ := info_parts info_span
  go_enter Try.func23, Try.ntmps23
  go_wp2_with fail
  go_loopw [3, 8] (fun v i wr => ∃ k : Nat, k ≤ n ∧ i = .int .i64 k ∧ Hid (wr.ownsRow w.heap.size 36 2 v k (flatL (T.take k))) ∧ Hid (Below w.heap.size w wr)) (fun _ i _ => n - (intOf i).toNat)
  case atStart => exact ⟨0, Nat.zero_le _, rfl, World.ownsRow_nil _ _ _ _, Below.refl _ _⟩
  case round =>
    obtain ⟨k, hk, rfl, HO, HB⟩ := hrel
    by_cases hlt : k < n
    · obtain ⟨b, off, rfl, hc⟩ := H.out.2 (by omega)
      have hbl := H.out.lt_ (by omega) rfl
      have hb2 : b < wr.heap.size := by have := HB.out.size; omega
      have c0 := ((bcell HB.out).1 b _ hbl).trans (hc k hlt).1
      have c1 := ((bcell HB.out).1 b _ hbl).trans (hc k hlt).2
      clear hc
      generalize hx : T.getD k (0, 0) = x at *
      obtain ⟨x, y⟩ := x
      have HX := Lib.hid hx
      clear hx
      simp only at c0 c1
      go_wp2_with (at_builtin; refine wpList_append_own _ rfl _ _ 26 rfl w.heap.size 36 i0 _ 2 8 Try.underlying26 hi hz0 hz1 hz2 rfl (by decide) _ _ _ rfl ((HO.out.alloc _).alloc _) ⟨wr.heap.size + 1, 0, none⟩ 1 1 [.int .i32 x, .int .i32 y] rfl rfl ?c1 ?c2 ?c3 ?c4 ?c5 ?_)
      case c1 =>
        intro j u hj
        match j, hj with
        | 0, hj => simp at hj; subst hj; simp [Addr.add]
        | 1, hj => simp at hj; subst hj; simp [Addr.add]
      case c2 => intro u hu; simp at hu; rcases hu with rfl | rfl <;> rfl
      case c3 => unfold maxLen; omega
      case c4 => omega
      case c5 => have := HB.out.size; simp; omega
      · intro v' w1 hown' hgrow _
        have HO2 := Lib.hid hown'
        have HG := Lib.hid hgrow
        clear hown' hgrow
        go_wp2_with fail
        go_roundw
        case rel =>
          refine ⟨k + 1, by omega, by go_num, ?_, ?_⟩
          · rw [take_succ_P T k (by rw [HL.out]; exact hlt), HX.out]
            exact HO2.out
          · refine Below.grown (w := (wr.alloc _).alloc _) ?_ HG.out ?_ ?_
            · have := HB.out
              have hs := HB.out.size
              (repeat' (first | (with_reducible exact Below.refl _ _) | (with_reducible assumption) | (with_reducible refine Below.alloc ?_ ?_ _) | (with_reducible refine below_setRow ?_ ?_ _) | (with_reducible refine bl_drew ?_) | (with_reducible refine bl_drewN ?_ _) | (with_reducible refine Below.setCell ?_ ?_ _) | (with_reducible refine bl_then ?_ ?_ hb) | (with_reducible refine bl_then ?_ ?_ hb1) | (with_reducible refine bl_then ?_ ?_ hb2) | (with_reducible refine bl_then ?_ ?_ hb3) | (with_reducible refine bl_then ?_ ?_ hb4) | (with_reducible refine bl_then ?_ ?_ hb5) | (with_reducible refine bl_then ?_ ?_ hb6) | (with_reducible refine bl_then ?_ ?_ hb7) | (with_reducible refine bl_then ?_ ?_ hb8) | (with_reducible exact Nat.le_refl _) | omega | (simp only [World.size_alloc, World.size_setCell, World.size_drew, size_setRow]; omega) | (simp; omega) | (simp; done)))
            · have := HB.out.size
              simp only [World.size_alloc]
              omega
            · intro k' hk'
              exact (HO.out.lt k' hk').1
        case measure => simp [intOf]; omega
    · go_wp2_with fail
      go_ret
      have e : k = n := by omega
      subst e
      refine ⟨_, rfl, ?_, HB.out⟩
      have := HO.out
      rwa [List.take_of_length_le (by rw [HL.out]; omega)] at this
/-- A slice that the call made reads as pairs. -/
theorem RdS.of_owns {w : World} {base : Nat} {e : TypeId} {v : Value} {n : Nat} {T : List (Int × Int)} (hn : T.length = n) (h : w.ownsRow base e 2 v n (flatL T)) : ∃ A cap, v = .slice A n cap ∧ RdS w A n T := by
  obtain ⟨hl, h⟩ := h
  rcases h with ⟨rfl, rfl⟩ | ⟨g, cap, cur, rfl, hg, hh, hc, hm, hs, ht⟩
  · exact ⟨none, 0, rfl, hn, fun h => absurd h (by omega)⟩
  · refine ⟨_, cap, rfl, hn, fun _ => ⟨g, 0, rfl, fun j hj => ?_⟩⟩
    have hat : ∀ i, i < n * 2 → w.cell? ⟨g, i, none⟩ = (flatL T)[i]? := fun i hi => by
      rw [cell_of_row w g i _ _ (0, 0) hh, ← ht, List.getElem?_take_of_lt hi]
      simp
    rw [Nat.zero_add]
    have hk : (flatL T) = (flatC T).toList := rfl
    refine ⟨(hat _ (by omega)).trans ?_, (hat _ (by omega)).trans ?_⟩
    · rw [hk, Array.getElem?_toList, flat_lo T j (by omega)]
    · rw [hk, Array.getElem?_toList, flat_hi T j (by omega)]
theorem owns_lower {w : World} {base b' : Nat} {e : TypeId} {size n : Nat} {v : Value} {xs : List Value} (h : w.ownsRow base e size v n xs) (hb : b' ≤ base) : w.ownsRow b' e size v n xs := by
  obtain ⟨hl, h⟩ := h
  refine ⟨hl, ?_⟩
  rcases h with h | ⟨g, cap, cur, rfl, hg, r⟩
  · exact .inl h
  · exact .inr ⟨g, cap, cur, rfl, Nat.le_trans hb hg, r⟩
theorem owns_later {w w1 : World} {base b' : Nat} {e : TypeId} {size n : Nat} {v : Value} {xs : List Value} (h : w.ownsRow base e size v n xs) (hb : b' ≤ base) (hk : Below w.heap.size w w1) : w1.ownsRow b' e size v n xs := by
  obtain ⟨hl, h⟩ := h
  refine ⟨hl, ?_⟩
  rcases h with h | ⟨g, cap, cur, rfl, hg, hh, r⟩
  · exact .inl h
  · have hlt : g < w.heap.size := (Array.getElem?_eq_some_iff.1 hh).1
    exact .inr ⟨g, cap, cur, rfl, Nat.le_trans hb hg, (hk.block g hlt).trans hh, r⟩
theorem tables_any (w : World) : Calls Try.prog 12 #[] w fun e w' => (∃ v z, e = .returned (.tuple #[v, z]) ∧ w'.ownsRow w.heap.size 36 2 v 37 (flatL wideT) ∧ w'.ownsRow w.heap.size 36 2 z 26 (flatL zeroT)) ∧ Below w.heap.size w w' := by
  have hz39 := zeroval_wides
  have hz41 := zeroval_zeros
  go_enter Try.func12, Try.ntmps12; go_wp2_with fail; refine (wides_any _).mono ?_; rintro e w' ⟨rfl, rfl⟩; go_wp2_with fail; refine (zeros_any _).mono ?_; rintro e w' ⟨rfl, rfl⟩; go_wp2_with (first | ((with_reducible refine wpList_store_row rfl 39 _ _ rfl _ (flatC wideT) rfl rfl 39 wides0 ?_ wides_info wides_size wides_one ?_); · (simp only [heap_setRow_if, heap_alloc_if, heap_setCell_if, World.size_alloc, size_setRow, World.size_setCell]; simp)) | ((with_reducible refine wpList_store_row rfl 41 _ _ rfl _ (flatC zeroT) rfl rfl 41 zeros0 ?_ zeros_info zeros_size zeros_one ?_); · (simp only [heap_setRow_if, heap_alloc_if, heap_setCell_if, World.size_alloc, size_setRow, World.size_setCell]; simp)))
  have hW : Below w.heap.size w ((((((w.alloc (Obj.cells (flatC wideT) 39)).alloc (Obj.cells (flatC zeroT) 41)).alloc (Obj.cells wides0 39)).alloc
              (Obj.cells zeros0 41)).setRow
          (w.heap.size + 1 + 1) (flatC wideT)).setRow
      (w.heap.size + 1 + 1 + 1) (flatC zeroT)) := by (repeat' (first | (with_reducible exact Below.refl _ _) | (with_reducible assumption) | (with_reducible refine Below.alloc ?_ ?_ _) | (with_reducible refine below_setRow ?_ ?_ _) | (with_reducible refine bl_drew ?_) | (with_reducible refine bl_drewN ?_ _) | (with_reducible refine Below.setCell ?_ ?_ _) | (with_reducible refine bl_then ?_ ?_ hb) | (with_reducible refine bl_then ?_ ?_ hb1) | (with_reducible refine bl_then ?_ ?_ hb2) | (with_reducible refine bl_then ?_ ?_ hb3) | (with_reducible refine bl_then ?_ ?_ hb4) | (with_reducible refine bl_then ?_ ?_ hb5) | (with_reducible refine bl_then ?_ ?_ hb6) | (with_reducible refine bl_then ?_ ?_ hb7) | (with_reducible refine bl_then ?_ ?_ hb8) | (with_reducible exact Nat.le_refl _) | omega | (simp only [World.size_alloc, World.size_setCell, World.size_drew, size_setRow]; omega) | (simp; omega) | (simp; done)))
  have hA : ((((((w.alloc (Obj.cells (flatC wideT) 39)).alloc (Obj.cells (flatC zeroT) 41)).alloc (Obj.cells wides0 39)).alloc
              (Obj.cells zeros0 41)).setRow
          (w.heap.size + 1 + 1) (flatC wideT)).setRow
      (w.heap.size + 1 + 1 + 1) (flatC zeroT)).heap[w.heap.size + 1 + 1]? = some (.cells (flatC wideT) 39 (0, 0)) := by (simp only [heap_setRow_if, heap_alloc_if, heap_setCell_if, World.size_alloc, size_setRow, World.size_setCell]; simp)
  have hB : ((((((w.alloc (Obj.cells (flatC wideT) 39)).alloc (Obj.cells (flatC zeroT) 41)).alloc (Obj.cells wides0 39)).alloc
              (Obj.cells zeros0 41)).setRow
          (w.heap.size + 1 + 1) (flatC wideT)).setRow
      (w.heap.size + 1 + 1 + 1) (flatC zeroT)).heap[w.heap.size + 1 + 1 + 1]? = some (.cells (flatC zeroT) 41 (0, 0)) := by (simp only [heap_setRow_if, heap_alloc_if, heap_setCell_if, World.size_alloc, size_setRow, World.size_setCell]; simp)
  generalize ((((((w.alloc (Obj.cells (flatC wideT) 39)).alloc (Obj.cells (flatC zeroT) 41)).alloc (Obj.cells wides0 39)).alloc
              (Obj.cells zeros0 41)).setRow
          (w.heap.size + 1 + 1) (flatC wideT)).setRow
      (w.heap.size + 1 + 1 + 1) (flatC zeroT)) = W4 at hW hA hB ⊢
  generalize w.heap.size + 1 + 1 + 1 = gB at hB ⊢
  generalize w.heap.size + 1 + 1 = gA at hA ⊢
  have RA := Lib.hid (RdS.table wide_len hA)
  have RB := Lib.hid (RdS.table zero_len hB)
  have HW := Lib.hid hW
  clear hW hA hB hz39 hz41
  go_region_with (first
    | (go_at_call_of 23 gB; refine (spans_any (some (Addr.mk gB 0 none)) 26 zeroT _ ?_ (by omega)).mono ?_; (first | exact RB.out.below (bl_drew (Below.refl _ _)) | exact RB.out.below (bl_then (bl_drew (Below.refl _ _)) (Nat.le_refl _) HV.out.2)); rintro e w' ⟨v, rfl, hv⟩; (first | (have := HV; have HV2 := Lib.hid hv) | have HV := Lib.hid hv); clear hv)
    | (go_at_call_of 23 gA; refine (spans_any (some (Addr.mk gA 0 none)) 37 wideT _ ?_ (by omega)).mono ?_; (first | exact RA.out.below (bl_drew (Below.refl _ _)) | exact RA.out.below (bl_then (bl_drew (Below.refl _ _)) (Nat.le_refl _) HV.out.2)); rintro e w' ⟨v, rfl, hv⟩; (first | (have := HV; have HV2 := Lib.hid hv) | have HV := Lib.hid hv); clear hv))
  all_goals
    have h1 := HV.out
    have h2 := HV2.out
    have s1 := HV.out.2.size
    have s4 := HW.out.size
    have s4' : W4.drew.heap.size = W4.heap.size := rfl
    have B1 := Lib.hid (bl_then HW.out s4 (bl_then (bl_drew (Below.refl _ _)) (Nat.le_refl _) HV.out.2))
    have B2 := Lib.hid (bl_then B1.out B1.out.size HV2.out.2)
    have O1 := Lib.hid (owns_later HV.out.1 (show w.heap.size ≤ W4.drew.heap.size by omega) HV2.out.2)
    have O2 := Lib.hid (owns_lower HV2.out.1 B1.out.size)
    clear h1 h2 s1 s4 s4'
    go_wp2
    go_ret2
    exact ⟨⟨_, _, rfl, by first | exact O1.out | exact O2.out, by first | exact O1.out | exact O2.out⟩, B2.out⟩
theorem rtables_any (w : World) : Calls Try.prog 13 #[] w fun e w' => e = .returned (.tuple #[.slice (some ⟨w.heap.size, 0, none⟩) 37 37, .slice (some ⟨w.heap.size + 1, 0, none⟩) 26 26]) ∧ (w.alloc (.cells (flatC wideT) 36)).alloc (.cells (flatC zeroT) 36) = w' := by
  go_enter Try.func13, Try.ntmps13
  go_wp2_with fail
  refine (rwide_any _).mono ?_
  rintro e w1 ⟨rfl, rfl⟩
  go_wp2_with fail
  refine (rzero_any _).mono ?_
  rintro e w1 ⟨rfl, rfl⟩
  go_wp2_with fail
  go_ret2
  simp
theorem neqSpan (w : World) (x0 x1 y0 y1 : Int) :
    (binOp .neq 36 (.agg #[.int .i32 x0, .int .i32 x1]) (.agg #[.int .i32 y0, .int .i32 y1])).run Try.prog w = .ok (.bool (!(x0 == y0 && x1 == y1))) w := by
  go_simp
  by_cases h0 : x0 = y0
  · by_cases h1 : x1 = y1
    · simp [h0, h1]
    · simp [h0, h1]
  · simp [h0]
theorem same_any (A A2 : Option Addr) (n cap cap2 : Nat) (T : List (Int × Int)) (w : World) (h : RdS w A n T) (h2 : RdS w A2 n T) (hn : n ≤ 140737488355328) :
    Calls Try.prog 15 #[.slice A n cap, .slice A2 n cap2] w fun e w' => e = .returned (.bool true) ∧ Below w.heap.size w w' := by
  have hq := neqSpan
  have H := Lib.hid h
  have H2 := Lib.hid h2
  clear h h2
  go_enter Try.func15, Try.ntmps15
  go_wp2_with fail
  go_loopw [5] (fun i wr => ∃ k : Nat, k ≤ n ∧ i = .int .i64 k ∧ Hid (Below w.heap.size w wr)) (fun i _ => n - (intOf i).toNat)
  case atStart => exact ⟨0, Nat.zero_le _, rfl, Below.refl _ _⟩
  case round =>
    obtain ⟨k, hk, rfl, HB⟩ := hrel
    by_cases hlt : k < n
    · obtain ⟨b, off, rfl, hc⟩ := H.out.2 (by omega)
      obtain ⟨b', off', rfl, hc'⟩ := H2.out.2 (by omega)
      have hbl := H.out.lt_ (by omega) rfl
      have hbl' := H2.out.lt_ (by omega) rfl
      have c0 := (hc k hlt).1
      have c1 := (hc k hlt).2
      have d0 := (hc' k hlt).1
      have d1 := (hc' k hlt).2
      clear hc hc'
      generalize hx : T.getD k (0, 0) = x at *
      obtain ⟨x, y⟩ := x
      clear hx
      simp only at c0 c1 d0 d1
      go_wp2_with fail
      refine wp_region_text (fun W => Below w.heap.size w W) (by kernel_rfl) (by kernel_rfl) (bl_drew HB.out) ?_
      (apply SeqL.pure; (focus (first | rfl | (go_simp; done) | (simp [Region.wanted, yielded]; done))); (focus (intro w; go_simp; with_reducible rfl)); go_simp)
      (apply SeqL.pure; (focus (first | rfl | (go_simp; done) | (simp [Region.wanted, yielded]; done))); (focus (intro w; go_simp; with_reducible rfl)); go_simp)
      (apply SeqL.pure; (focus (first | rfl | (go_simp; done) | (simp [Region.wanted, yielded]; done))); (focus (intro w; go_simp; with_reducible rfl)); go_simp)
      (apply SeqL.read; (focus (first | rfl | (go_simp; done) | (simp [Region.wanted, yielded]; done))); (focus (intro W hF; have x0 := ((bcell hF).1 _ _ hbl).trans c0; have x1 := ((bcell hF).1 _ _ hbl).trans c1; go_simp; with_reducible rfl)); go_simp)
      (apply SeqL.pure; (focus (first | rfl | (go_simp; done) | (simp [Region.wanted, yielded]; done))); (focus (intro w; go_simp; with_reducible rfl)); go_simp)
      (apply SeqL.pure; (focus (first | rfl | (go_simp; done) | (simp [Region.wanted, yielded]; done))); (focus (intro w; go_simp; with_reducible rfl)); go_simp)
      (apply SeqL.pure; (focus (first | rfl | (go_simp; done) | (simp [Region.wanted, yielded]; done))); (focus (intro w; go_simp; with_reducible rfl)); go_simp)
      (apply SeqL.read; (focus (first | rfl | (go_simp; done) | (simp [Region.wanted, yielded]; done))); (focus (intro W hF; have x0 := ((bcell hF).1 _ _ hbl').trans d0; have x1 := ((bcell hF).1 _ _ hbl').trans d1; go_simp; with_reducible rfl)); go_simp)
      (apply SeqL.pure; (focus (first | rfl | (go_simp; done) | (simp [Region.wanted, yielded]; done))); (focus (intro w; go_simp; with_reducible rfl)); go_simp)
      refine SeqL.done fun w1 hb1 => ?_
      have HB1 := Lib.hid hb1
      clear hb1
      go_wp2_with fail
      go_roundw
      case rel => exact ⟨k + 1, by omega, by go_num, HB1.out⟩
      case measure => simp [intOf]; omega
    · go_wp2_with fail
      go_ret
      exact ⟨rfl, HB.out⟩
end Go.Proofs.Ytpgeohigdblooaa
