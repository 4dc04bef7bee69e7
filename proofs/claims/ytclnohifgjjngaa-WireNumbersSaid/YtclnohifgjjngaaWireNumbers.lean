/- What is proved: the law WireNumbers returns true when it is called; conditions: the number is of its kind, the bytes read as they are said to. -/
import Derived.Test.YtclnohifgjjngaaWireA
set_option linter.unusedSimpArgs false
set_option linter.unusedVariables false
namespace Go.Proofs.Ytclnohifgjjngaa
open Go.RowKit
set_option maxRecDepth 100000
set_option maxHeartbeats 4000000
theorem numbers_law (n : Int) (v : Value) (bs : List Int) (w : World) (hn : 0 ≤ n ∧ n < 18446744073709551616) (h : BB w v bs) :
    Calls Try.prog 3 #[.int .u64 n, v] w fun e w' => e = .returned (.bool true) ∧ Below w.heap.size w w' := by
  obtain ⟨m, rfl⟩ := Int.eq_ofNat_of_zero_le hn.1
  have hm : m < 18446744073709551616 := by omega
  have HB := Lib.hid h
  clear h hn
  go_enter Try.func3, Try.ntmps3
  go_wp2_with fail
  refine (readuint_any _ bs _ HB.out).mono ?_
  rintro e w1 ⟨rfl, rfl⟩
  go_wp2_with fail
  refine (refread_any _ bs _ HB.out).mono ?_
  rintro e w2 ⟨rfl, hb⟩
  have HB2 := Lib.hid hb
  clear hb
  go_wp2_with fail
  refine (uint_any m _ hm).mono ?_
  rintro e w3 ⟨⟨u3, rfl, ho3⟩, hb⟩
  have HO3 := Lib.hid ho3
  have HB3 := Lib.hid (bl_then HB2.out HB2.out.size hb)
  clear hb ho3
  go_wp2_with fail
  refine (ruint_any m _ hm).mono ?_
  rintro e w4 ⟨⟨u4, rfl, ho4⟩, hb⟩
  have HO4 := Lib.hid ho4
  have HO3' := Lib.hid (HO3.out.below hb)
  have HB4 := Lib.hid (bl_then HB3.out HB3.out.size hb)
  clear hb ho4 HO3
  have hul := uintB_len m
  go_wp2_with fail
  refine (same_bytes _ _ (uintB m) (uintB m) _ (HO3'.out.rd (uintB_ok hm) (by omega)) (HO4.out.rd (uintB_ok hm) (by omega))).mono ?_
  rintro e w5 ⟨rfl, rfl⟩
  simp only [decide_true]
  go_wp2_with fail
  refine (anchored_any _).mono ?_
  rintro e w6 ⟨rfl, hb⟩
  have HB6 := Lib.hid (bl_then HB4.out HB4.out.size hb)
  clear hb
  go_wp2_with fail
  go_ret
  exact ⟨rfl, HB6.out⟩
end Go.Proofs.Ytclnohifgjjngaa
