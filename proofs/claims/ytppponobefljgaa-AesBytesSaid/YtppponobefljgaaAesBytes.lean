/- What is proved: the law AesBytes answers true when it is called; conditions: the arguments are bytes. -/
import Derived.Test.YtppponobefljgaaAesR3
set_option linter.unusedSimpArgs false
set_option linter.unusedVariables false
namespace Go.Proofs.Ytppponobefljgaa
open Go.RowKit
set_option maxRecDepth 100000
set_option maxHeartbeats 8000000
theorem bytes_any (a b : Nat) (ha : a < 256) (hb : b < 256) (w : World) : Calls Try.prog 4 #[.int .u8 a, .int .u8 b] w fun e w' => e = .returned (.bool true) ∧ Below w.heap.size w w' := by
  obtain ⟨p, hp⟩ : ∃ p, mul a b = p := ⟨_, rfl⟩
  have T1 := Lib.hid hp
  obtain ⟨s, hs⟩ : ∃ s, subT b = s := ⟨_, rfl⟩
  have hsl : s < 256 := by rw [← hs]; exact (tab_s b hb).1
  have T2 : Hid (subI b = (s : Int)) := Lib.hid (by unfold subI; rw [hs])
  have T3 : Hid (unsI s = (b : Int)) := Lib.hid (by unfold unsI; rw [← hs, (tab_s b hb).2.1])
  clear hp hs
  obtain ⟨x, hx⟩ : ∃ x, subI a = x := ⟨_, rfl⟩
  have HX := Lib.hid hx
  obtain ⟨y, hy⟩ : ∃ y, unsI a = y := ⟨_, rfl⟩
  have HY := Lib.hid hy
  clear hx hy
  go_enter Try.func4, Try.ntmps4
  go_wp2_with fail
  refine (times_any a b _ ha hb).mono ?_
  rintro e w1 ⟨rfl, rfl⟩
  rw [T1.out]
  go_wp2_with fail
  refine (rtimes_any a b _ ha hb).mono ?_
  rintro e w1 ⟨rfl, rfl⟩
  rw [T1.out]
  go_wp2_with fail
  refine (sub_any a _ ha).mono ?_
  rintro e w1 ⟨rfl, hb1⟩
  rw [HX.out]
  have HL1 := Lib.hid hb1
  clear hb1
  go_wp2_with fail
  refine (rsub_any a _ ha).mono ?_
  rintro e w2 ⟨rfl, rfl⟩
  rw [HX.out]
  go_wp2_with fail
  refine (unsub_any a _ ha).mono ?_
  rintro e w2 ⟨rfl, hb1⟩
  rw [HY.out]
  have HL2 := Lib.hid (bl_then HL1.out HL1.out.size hb1)
  clear hb1
  go_wp2_with fail
  refine (runsub_any a _ ha).mono ?_
  rintro e w3 ⟨rfl, hb1⟩
  rw [HY.out]
  have HL3 := Lib.hid (bl_then HL2.out HL2.out.size hb1)
  clear hb1
  go_wp2_with fail
  refine (sub_any b _ hb).mono ?_
  rintro e w4 ⟨rfl, hb1⟩
  rw [T2.out]
  have HL4 := Lib.hid (bl_then HL3.out HL3.out.size hb1)
  clear hb1
  go_wp2_with fail
  refine (unsub_any s _ hsl).mono ?_
  rintro e w5 ⟨rfl, hb1⟩
  rw [T3.out]
  have HL5 := Lib.hid (bl_then HL4.out HL4.out.size hb1)
  clear hb1
  go_wp2_with fail
  refine (anchored_any _).mono ?_
  rintro e w6 ⟨rfl, hb1⟩
  have HL6 := Lib.hid (bl_then HL5.out HL5.out.size hb1)
  clear hb1
  go_wp2_with fail
  go_ret
  exact ⟨rfl, HL6.out⟩
theorem bytes_law (a b : Int) (ha : 0 ≤ a ∧ a ≤ 255) (hb : 0 ≤ b ∧ b ≤ 255) (w : World) : Calls Try.prog 4 #[.int .u8 a, .int .u8 b] w fun e w' => e = .returned (.bool true) ∧ Below w.heap.size w w' := by
  have h := bytes_any a.toNat b.toNat (by omega) (by omega) w
  rwa [Int.toNat_of_nonneg ha.1, Int.toNat_of_nonneg hb.1] at h
end Go.Proofs.Ytppponobefljgaa
