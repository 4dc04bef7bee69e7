/- What is proved: what Write of package wire answers when it is called; conditions: the numbers are of their kind, the slice reads as it is said to. -/
import Derived.Test.YtclnohifgjjngaaWire5
set_option linter.unusedSimpArgs false
set_option linter.unusedVariables false
namespace Go.Proofs.Ytclnohifgjjngaa
open Go.RowKit
set_option maxRecDepth 100000
set_option maxHeartbeats 1000000
/-- The forms of the first k numbers. -/
def pre5 (f : Nat → Nat) : Nat → List Int
  | 0 => []
  | k + 1 => pre5 f k ++ uintB (f k)
theorem pre5_len (f : Nat → Nat) : ∀ k, (pre5 f k).length ≤ 11 * k
  | 0 => by simp [pre5]
  | k + 1 => by
    have h1 := pre5_len f k
    have h2 := uintB_len (f k)
    simp only [pre5, List.length_append]
    omega
theorem pre5_ok (f : Nat → Nat) (hf : ∀ k, f k < 18446744073709551616) : ∀ k, okB (pre5 f k)
  | 0 => okB.nil
  | k + 1 => (pre5_ok f hf k).app (uintB_ok (hf k))
/-- An instruction's form. -/
def writeS (o n a t : Nat) (d : List Int) : List Int := pre5 (fun k => [o, n, a, t, d.length].getD k 0) 5 ++ d
theorem write_any (o n a t : Nat) (v : Value) (d : List Int) (w : World) (h : BB w v d) (ho : o < 18446744073709551616) (hn : n < 18446744073709551616) (ha : a < 18446744073709551616) (ht : t < 18446744073709551616) :
    Calls Try.prog 15 #[.agg #[.int .u64 o, .int .u64 n, .int .u64 a, .int .u64 t, v]] w fun e w' =>
      (∃ u, e = .returned (.tuple #[u, .int .i64 (if 65536 < d.length then 2 else 0 : Nat)]) ∧ OwB w' w.heap.size u (if 65536 < d.length then [] else writeS o n a t d)) ∧ Below w.heap.size w w' := by
  obtain ⟨hok, hlen, A, cap, rfl, hr, hnc, hlc, hcm⟩ := h
  have HD : Hid (BB w (.slice A d.length cap) d) := Lib.hid ⟨hok, hlen, A, cap, rfl, hr, hnc, hlc, hcm⟩
  clear hok hr
  by_cases hbig : 65536 < d.length
  · rw [if_pos hbig, if_pos hbig]
    go_enter Try.func15, Try.ntmps15
    go_wp2_with fail
    refine bodyPost_ret (v := .tuple #[.slice none 0 0, .int .i64 2]) (by simp [results, Try.results15, go_sem]) rfl ?_
    exact ⟨⟨_, rfl, OwB.nil _ _⟩, by (repeat' (first | (with_reducible exact Below.refl _ _) | (with_reducible assumption) | (with_reducible refine Below.alloc ?_ ?_ _) | (with_reducible refine below_setRow ?_ ?_ _) | (with_reducible refine bl_drew ?_) | (with_reducible refine bl_drewN ?_ _) | (with_reducible refine Below.setCell ?_ ?_ _) | (with_reducible refine bl_then ?_ ?_ hb) | (with_reducible refine bl_then ?_ ?_ hb1) | (with_reducible refine bl_then ?_ ?_ hb2) | (with_reducible refine bl_then ?_ ?_ hb3) | (with_reducible refine bl_then ?_ ?_ hb4) | (with_reducible refine bl_then ?_ ?_ hb5) | (with_reducible refine bl_then ?_ ?_ hb6) | (with_reducible refine bl_then ?_ ?_ hb7) | (with_reducible refine bl_then ?_ ?_ hb8) | (with_reducible exact Nat.le_refl _) | omega | (simp only [World.size_alloc, World.size_setCell, World.size_drew, size_setRow]; omega) | (simp; omega) | (simp; done)))⟩
  · rw [if_neg hbig, if_neg hbig]
    go_enter Try.func15, Try.ntmps15
    go_wp2_with fail
    have hcell : (w.alloc (.cells #[.int .u64 o, .int .u64 n, .int .u64 a, .int .u64 t, .slice A d.length cap] 34)).heap[w.heap.size]? = some (.cells #[.int .u64 o, .int .u64 n, .int .u64 a, .int .u64 t, .slice A d.length cap] 34) := heap_alloc_last w _
    have hb1 : Below w.heap.size w (w.alloc (.cells #[.int .u64 o, .int .u64 n, .int .u64 a, .int .u64 t, .slice A d.length cap] 34)) := by (repeat' (first | (with_reducible exact Below.refl _ _) | (with_reducible assumption) | (with_reducible refine Below.alloc ?_ ?_ _) | (with_reducible refine below_setRow ?_ ?_ _) | (with_reducible refine bl_drew ?_) | (with_reducible refine bl_drewN ?_ _) | (with_reducible refine Below.setCell ?_ ?_ _) | (with_reducible refine bl_then ?_ ?_ hb) | (with_reducible refine bl_then ?_ ?_ hb1) | (with_reducible refine bl_then ?_ ?_ hb2) | (with_reducible refine bl_then ?_ ?_ hb3) | (with_reducible refine bl_then ?_ ?_ hb4) | (with_reducible refine bl_then ?_ ?_ hb5) | (with_reducible refine bl_then ?_ ?_ hb6) | (with_reducible refine bl_then ?_ ?_ hb7) | (with_reducible refine bl_then ?_ ?_ hb8) | (with_reducible exact Nat.le_refl _) | omega | (simp only [World.size_alloc, World.size_setCell, World.size_drew, size_setRow]; omega) | (simp; omega) | (simp; done)))
    have hz1 : (w.alloc (.cells #[.int .u64 o, .int .u64 n, .int .u64 a, .int .u64 t, .slice A d.length cap] 34)).heap.size = w.heap.size + 1 := by simp
    generalize w.alloc (.cells #[.int .u64 o, .int .u64 n, .int .u64 a, .int .u64 t, .slice A d.length cap] 34) = w1 at hcell hb1 hz1 ⊢
    have HC := Lib.hid hcell
    have HB1 := Lib.hid hb1
    clear hcell hb1
    generalize hf : (fun k => [o, n, a, t, d.length].getD k 0) = f
    have HF : Hid (∀ k, f k < 18446744073709551616) := Lib.hid (by
      intro k
      subst hf
      match k with
      | 0 => exact ho
      | 1 => exact hn
      | 2 => exact ha
      | 3 => exact ht
      | 4 => show d.length < _; omega
      | k + 5 => simp)
    go_loopw [4, 24] (fun b i wr => ∃ k : Nat, k ≤ 5 ∧ i = .int .i64 k ∧ Hid (OwB wr w1.heap.size b (pre5 f k)) ∧ Hid (Below w1.heap.size w1 wr)) (fun _ i _ => 5 - (intOf i).toNat)
    case atStart => exact ⟨0, by omega, rfl, Lib.hid (OwB.nil _ _), Lib.hid (Below.refl _ _)⟩
    case round =>
      obtain ⟨k, hk, rfl, HO, HB⟩ := hrel
      have hz := HB.out.size
      by_cases hlt : k < 5
      · have hput : ∀ m : Nat, m = f k → Calls Try.prog 31 #[u4, .int .u64 m] wr fun e w' => ∃ u, e = .returned u ∧ Hid (OwB w' w1.heap.size u (pre5 f (k + 1))) ∧ Hid (Below w1.heap.size w1 w') := by
          rintro m rfl
          refine (put_any _ (pre5 f k) (f k) w1.heap.size wr HO.out (pre5_ok f HF.out k) (by have := pre5_len f k; omega) (HF.out k) hz).mono ?_
          rintro e w' ⟨u, rfl, h1, h2, _⟩
          exact ⟨u, rfl, Lib.hid h1, Lib.hid (HB.out.grown h2 hz (fun q hq => (World.ownsRow.lt HO.out q hq).1))⟩
        have i0 : ∀ w, (Instr.index 65 (.agg #[.int .u64 o, .int .u64 n, .int .u64 a, .int .u64 t, .int .u64 d.length]) (.int .i64 0)).run Try.prog w = .ok (.int .u64 (o : Nat)) w := fun _ => by kernel_rfl
        have i1 : ∀ w, (Instr.index 65 (.agg #[.int .u64 o, .int .u64 n, .int .u64 a, .int .u64 t, .int .u64 d.length]) (.int .i64 1)).run Try.prog w = .ok (.int .u64 (n : Nat)) w := fun _ => by kernel_rfl
        have i2 : ∀ w, (Instr.index 65 (.agg #[.int .u64 o, .int .u64 n, .int .u64 a, .int .u64 t, .int .u64 d.length]) (.int .i64 2)).run Try.prog w = .ok (.int .u64 (a : Nat)) w := fun _ => by kernel_rfl
        have i3 : ∀ w, (Instr.index 65 (.agg #[.int .u64 o, .int .u64 n, .int .u64 a, .int .u64 t, .int .u64 d.length]) (.int .i64 3)).run Try.prog w = .ok (.int .u64 (t : Nat)) w := fun _ => by kernel_rfl
        have i4 : ∀ w, (Instr.index 65 (.agg #[.int .u64 o, .int .u64 n, .int .u64 a, .int .u64 t, .int .u64 d.length]) (.int .i64 4)).run Try.prog w = .ok (.int .u64 (d.length : Nat)) w := fun _ => by kernel_rfl
        rcases (by omega : k = 0 ∨ k = 1 ∨ k = 2 ∨ k = 3 ∨ k = 4) with rfl | rfl | rfl | rfl | rfl
        all_goals
          clear hlt HB HO
          go_wp2_with fail
          refine (hput _ (by rw [← hf]; rfl)).mono ?_
          rintro e w3 ⟨u, rfl, HO, HB⟩
          go_wp2_with fail
          go_roundw
          case rel => exact ⟨_, by decide, rfl, HO, HB⟩
          case measure => decide
      · obtain rfl : k = 5 := by omega
        have hcb : wr.heap[w.heap.size]? = some (.cells #[.int .u64 o, .int .u64 n, .int .u64 a, .int .u64 t, .slice A d.length cap] 34) := (HB.out.block _ (by omega)).trans HC.out
        have c4 : wr.cell? ⟨w.heap.size, 4, none⟩ = some (.slice A d.length cap) := (cell_of_row wr w.heap.size 4 _ _ (0, 0) hcb).trans rfl
        have hpl := pre5_len f 5
        clear hcb
        go_wp2_with (at_builtin; refine wpList_appB (base := w1.heap.size) rfl _ _ rfl u4 (.slice A d.length cap) (pre5 f 5) d rfl ?_ rfl ?_ ?_ ?_ ?_)
        · exact HO.out
        · exact (HD.out.below HB1.out).below HB.out
        · omega
        · omega
        · intro v' w' h1 h2 h3
          have HO2 := Lib.hid h1
          have HB2 := Lib.hid (HB.out.grown h2 hz (fun q hq => (World.ownsRow.lt HO.out q hq).1))
          clear h1 h2 h3
          go_wp2_with fail
          refine bodyPost_ret (v := .tuple #[v', .int .i64 0]) (by simp [results, Try.results15, go_sem]) rfl ?_
          refine ⟨⟨v', rfl, ?_⟩, bl_then HB1.out (by omega) HB2.out⟩
          unfold writeS
          rw [hf]
          exact HO2.out.mono (by omega)
end Go.Proofs.Ytclnohifgjjngaa
