/- What is proved: what Uint and ReadUint of package wire, and of its reference, do when they are called; conditions: the numbers are of their kind, the slices read as they are said to. -/
import Derived.Test.YtgkiedbefogklaaWire
set_option linter.unusedSimpArgs false
set_option linter.unusedVariables false
namespace Go.Proofs.Ytgkiedbefogklaa
open Go.RowKit
set_option maxRecDepth 100000
set_option maxHeartbeats 1000000
theorem uint_any (n : Nat) (w : World) (hn : n < 18446744073709551616) : Calls Try.prog 35 #[.int .u64 n] w fun e w' => (∃ v, e = .returned v ∧ OwB w' w.heap.size v (uintB n)) ∧ Below w.heap.size w w' := by
  go_enter Try.func35, Try.ntmps35
  go_wp2_with fail
  refine (put_any (.slice none 0 0) [] n w.heap.size w (OwB.nil _ _) okB.nil (by simp) hn (Nat.le_refl _)).mono ?_
  rintro e w1 ⟨u, rfl, ho, hg, _⟩
  have HO := Lib.hid ho
  have HB := Lib.hid ((Below.refl w.heap.size w).grown hg (Nat.le_refl _) (by simp [Value.ownBlock]))
  clear ho hg
  go_wp2_with fail
  go_ret
  exact ⟨⟨_, rfl, by have h := HO.out; rw [List.nil_append] at h; exact h⟩, HB.out⟩
theorem ruint_any (n : Nat) (w : World) (hn : n < 18446744073709551616) : Calls Try.prog 45 #[.int .u64 n] w fun e w' => (∃ v, e = .returned v ∧ OwB w' w.heap.size v (uintB n)) ∧ Below w.heap.size w w' := by
  go_enter Try.func45, Try.ntmps45
  go_wp2_with fail
  go_loopw [0, 3] (fun i u wr => ∃ (f m : Nat) (pre : List Int), i = .int .u64 m ∧ m ≤ n ∧ m < 2 * 128 ^ f ∧ Hid (OwB wr w.heap.size u pre) ∧ Hid (pre ++ uintF f m = uintB n) ∧ Hid (Below w.heap.size w wr)) (fun i _ _ => (intOf i).toNat)
  case atStart => exact ⟨10, n, [], rfl, Nat.le_refl _, by omega, OwB.nil _ _, rfl, Below.refl _ _⟩
  case round =>
    obtain ⟨f, m, pre, rfl, hmn, hm, HO, HP, HB⟩ := hrel
    have hz := HB.out.size
    have hpl : pre.length ≤ 11 := by
      have h1 := congrArg List.length HP.out
      have h2 := uintB_len n
      rw [List.length_append] at h1
      omega
    by_cases hge : 128 ≤ m
    · obtain ⟨f, rfl⟩ : ∃ f', f = f' + 1 := by
        match f, hm with
        | 0, hm => omega
        | f + 1, _ => exact ⟨f, rfl⟩
      have hP2 : pre ++ ((m : Int) % 128 + 128) :: uintF f (m / 128) = uintB n := by
        have h := HP.out
        unfold uintF at h
        rw [if_pos hge] at h
        exact h
      have HP2 := Lib.hid hP2
      have hm2 : m / 128 < 2 * 128 ^ f := by rw [Nat.pow_succ] at hm; omega
      have HM2 := Lib.hid hm2
      have hgi : (128 : Int) ≤ (m : Int) := by omega
      clear hP2 hm2 hm
      go_wp2_with (at_builtin; refine wpList_appB (base := w.heap.size) rfl _ _ rfl u3 (.slice (some ⟨wr.heap.size, 0, none⟩) 1 1) pre [(m : Int) % 128 + 128] rfl ?_ rfl ?_ ?_ ?_ ?_)
      · exact (HO.out.below (w1 := wr.alloc (.cells #[.int .u8 ((m : Int) % 128 + 128)] 5)) (by (repeat' (first | (with_reducible exact Below.refl _ _) | (with_reducible assumption) | (with_reducible refine Below.alloc ?_ ?_ _) | (with_reducible refine below_setRow ?_ ?_ _) | (with_reducible refine bl_drew ?_) | (with_reducible refine bl_drewN ?_ _) | (with_reducible refine Below.setCell ?_ ?_ _) | (with_reducible refine bl_then ?_ ?_ hb) | (with_reducible refine bl_then ?_ ?_ hb1) | (with_reducible refine bl_then ?_ ?_ hb2) | (with_reducible refine bl_then ?_ ?_ hb3) | (with_reducible refine bl_then ?_ ?_ hb4) | (with_reducible refine bl_then ?_ ?_ hb5) | (with_reducible refine bl_then ?_ ?_ hb6) | (with_reducible refine bl_then ?_ ?_ hb7) | (with_reducible refine bl_then ?_ ?_ hb8) | (with_reducible exact Nat.le_refl _) | omega | (simp only [World.size_alloc, World.size_setCell, World.size_drew, size_setRow]; omega) | (simp; omega) | (simp; done)))))
      · exact BB.one wr _ (by omega)
      · first | omega | (simp; omega)
      · first | omega | (simp; omega)
      · intro v' w' h1 h2 h3
        have HO2 := Lib.hid h1
        have HB2 := Lib.hid ((HB.out.alloc hz (.cells #[.int .u8 ((m : Int) % 128 + 128)] 5)).grown h2 (by simp; omega) (fun q hq => (World.ownsRow.lt HO.out q hq).1))
        clear h1 h2 h3
        go_wp2_with fail
        go_roundw
        case rel =>
          refine ⟨f, m / 128, pre ++ [(m : Int) % 128 + 128], ?_, by omega, HM2.out, HO2.out, ?_, HB2.out⟩
          · go_num
          · show (pre ++ [(m : Int) % 128 + 128]) ++ uintF f (m / 128) = uintB n
            rw [List.append_assoc]
            exact HP2.out
        case measure =>
          have hw : IntKind.u64.wrap ((m : Int) / 128) = ((m / 128 : Nat) : Int) := by rw [IntKind.wrap_u64]; omega
          simp [intOf, hw]
          omega
    · have hP2 : pre ++ [(m : Int)] = uintB n := by rw [← HP.out, uintF_small hge]
      have HP2 := Lib.hid hP2
      have hgi : ¬ (128 : Int) ≤ (m : Int) := by omega
      have hmb : (m : Int) % 256 = (m : Int) := by omega
      clear hP2 hm
      go_wp2_with (at_builtin; refine wpList_appB (base := w.heap.size) rfl _ _ rfl u3 (.slice (some ⟨wr.heap.size, 0, none⟩) 1 1) pre [(m : Int)] rfl ?_ rfl ?_ ?_ ?_ ?_)
      · exact (HO.out.below (w1 := wr.alloc (.cells #[.int .u8 (m : Int)] 5)) (by (repeat' (first | (with_reducible exact Below.refl _ _) | (with_reducible assumption) | (with_reducible refine Below.alloc ?_ ?_ _) | (with_reducible refine below_setRow ?_ ?_ _) | (with_reducible refine bl_drew ?_) | (with_reducible refine bl_drewN ?_ _) | (with_reducible refine Below.setCell ?_ ?_ _) | (with_reducible refine bl_then ?_ ?_ hb) | (with_reducible refine bl_then ?_ ?_ hb1) | (with_reducible refine bl_then ?_ ?_ hb2) | (with_reducible refine bl_then ?_ ?_ hb3) | (with_reducible refine bl_then ?_ ?_ hb4) | (with_reducible refine bl_then ?_ ?_ hb5) | (with_reducible refine bl_then ?_ ?_ hb6) | (with_reducible refine bl_then ?_ ?_ hb7) | (with_reducible refine bl_then ?_ ?_ hb8) | (with_reducible exact Nat.le_refl _) | omega | (simp only [World.size_alloc, World.size_setCell, World.size_drew, size_setRow]; omega) | (simp; omega) | (simp; done)))))
      · exact BB.one wr _ (by omega)
      · first | omega | (simp; omega)
      · first | omega | (simp; omega)
      · intro v' w' h1 h2 h3
        have h1' : OwB w' w.heap.size v' (uintB n) := by
          rw [← HP2.out]
          exact h1
        have HO2 := Lib.hid h1'
        have HB2 := Lib.hid ((HB.out.alloc hz (.cells #[.int .u8 (m : Int)] 5)).grown h2 (by simp; omega) (fun q hq => (World.ownsRow.lt HO.out q hq).1))
        clear h1 h2 h3 h1'
        go_wp2_with fail
        go_ret
        exact ⟨⟨v', rfl, HO2.out⟩, HB2.out⟩
end Go.Proofs.Ytgkiedbefogklaa
