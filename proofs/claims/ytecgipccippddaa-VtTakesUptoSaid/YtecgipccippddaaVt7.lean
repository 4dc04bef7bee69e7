/- What is proved: what control of package vt answers when it is called; conditions: those typed. -/
import Derived.Test.YtecgipccippddaaVt6
import Derived.StillTailTactics
set_option linter.unusedSimpArgs false
set_option linter.unusedVariables false
namespace Go.Proofs.Ytecgipccippddaa
open Go.RowKit
set_option maxRecDepth 100000
set_option maxHeartbeats 8000000
theorem control_digit (P base : Nat) (s : VS) (vm vp vt : Value) (c : Int) (hc : 48 ≤ c ∧ c ≤ 57) (w : World) (h : PW w P base s vm vp vt) (ho : VOk s) (hbase : base ≤ w.heap.size) :
    Calls Try.prog 24 #[.pointer (some ⟨P, 0, none⟩), .int .i32 c] w fun e w' => ∃ v, e = .returned v ∧ TakeOk w w' P base (controlS s c) vm vp vt v := by
  have H := Lib.hid h
  have HOK := Lib.hid ho
  have HBS := Lib.hid hbase
  have hPl := lt_of_heap h.hP
  have HCS : Hid (controlS s c = (digitS (badS s) (c - 48), [])) := Lib.hid (by unfold controlS; rw [if_pos hc])
  have hy0 : 48 ≤ c := by omega
  have hy1 : c ≤ 57 := by omega
  have hy2 : IntKind.i32.wrap (c - 48) = c - 48 := by rw [IntKind.wrap_i32]; omega
  have hy3 : IntKind.i64.wrap (c - 48) = c - 48 := by rw [IntKind.wrap_i64]; omega
  obtain ⟨bd, hbd⟩ : ∃ b, s.bad = b := ⟨_, rfl⟩
  obtain ⟨A, cp, hvm⟩ := h.m.slice
  obtain ⟨n, hn⟩ : ∃ n, s.mid.length = n := ⟨_, rfl⟩
  rw [hn] at hvm
  have c2 : w.cell? ⟨P, 2, none⟩ = some (.slice A n cp) := by rw [← hvm]; exact h.cell rfl
  have c5 : w.cell? ⟨P, 5, none⟩ = some (.bool s.bad) := h.cell rfl
  rw [hbd] at c5
  have hf5 : w.frozen? ⟨P, 5, none⟩ = false := frozen_of_row w P 5 _ _ h.hP
  have HB : Hid (∀ b, badS s = { s with bad := b } → PW (w.setCell ⟨P, 5, none⟩ (.bool b)) P base (badS s) vm vp vt) := Lib.hid (fun b hb => by rw [hb]; exact h.set rfl rfl rfl rfl)
  have HOKB : Hid (VOk (badS s)) := Lib.hid (badS_ok ho)
  have HBD : Hid (∀ b, (bd || decide (0 < n)) = b → badS s = { s with bad := b }) := Lib.hid (fun b hb => by unfold badS; rw [hbd, hn, hb])
  clear h hn hvm hbd ho hbase
  have arm : ∀ b, (bd || decide (0 < n)) = b → Hid (PW (w.setCell ⟨P, 5, none⟩ (.bool b)) P base (badS s) vm vp vt) ∧ Hid (∀ w9, PStep (w.setCell ⟨P, 5, none⟩ (.bool b)) w9 P base (digitS (badS s) (c - 48)) vm vp vt → TakeOk w w9 P base (controlS s c) vm vp vt (.slice none 0 0)) ∧ Hid (base ≤ (w.setCell ⟨P, 5, none⟩ (.bool b)).heap.size) := fun b hb =>
    ⟨Lib.hid (HB.out b (HBD.out b hb)), Lib.hid (fun w9 hp => by
      rw [HCS.out]
      exact TakeOk.no (PStep.then (Inv.ofSet (S := PB P vm vp vt) (.inl rfl)) (fun g hg => .inl hg) hp)), Lib.hid (by simp; exact HBS.out)⟩
  clear HB HBD HCS
  cases bd with
  | true =>
    obtain ⟨HP1, HT1, HS1⟩ := arm true rfl
    clear arm
    go_enter Try.func24, Try.ntmps24
    go_wp2_with fail
    refine (digit_any P base (badS s) vm vp vt (c - 48) (by omega) _ HP1.out HOKB.out HS1.out).mono ?_
    rintro e w9 ⟨rfl, hp⟩
    have HF := Lib.hid (HT1.out w9 hp)
    clear hp
    go_wp2_with fail
    go_ret
    exact ⟨_, rfl, HF.out⟩
  | false =>
    by_cases h0 : 0 < n
    · obtain ⟨HP1, HT1, HS1⟩ := arm true (by simpa using h0)
      clear arm
      go_enter Try.func24, Try.ntmps24
      go_wp2_with fail
      refine (digit_any P base (badS s) vm vp vt (c - 48) (by omega) _ HP1.out HOKB.out HS1.out).mono ?_
      rintro e w9 ⟨rfl, hp⟩
      have HF := Lib.hid (HT1.out w9 hp)
      clear hp
      go_wp2_with fail
      go_ret
      exact ⟨_, rfl, HF.out⟩
    · obtain ⟨HP1, HT1, HS1⟩ := arm false (by simpa using h0)
      obtain rfl : n = 0 := by omega
      clear arm h0
      go_enter Try.func24, Try.ntmps24
      go_wp2_with fail
      refine (digit_any P base (badS s) vm vp vt (c - 48) (by omega) _ HP1.out HOKB.out HS1.out).mono ?_
      rintro e w9 ⟨rfl, hp⟩
      have HF := Lib.hid (HT1.out w9 hp)
      clear hp
      go_wp2_with fail
      go_ret
      exact ⟨_, rfl, HF.out⟩
theorem control_another (P base : Nat) (s : VS) (vm vp vt : Value) (c : Int) (hc : c = 59) (w : World) (h : PW w P base s vm vp vt) (ho : VOk s) (hbase : base ≤ w.heap.size) :
    Calls Try.prog 24 #[.pointer (some ⟨P, 0, none⟩), .int .i32 c] w fun e w' => ∃ v, e = .returned v ∧ TakeOk w w' P base (controlS s c) vm vp vt v := by
  obtain rfl : c = 59 := hc
  have H := Lib.hid h
  have HOK := Lib.hid ho
  have HBS := Lib.hid hbase
  have hPl := lt_of_heap h.hP
  have HCS : Hid (controlS s 59 = (anotherS (badS s), [])) := Lib.hid (by unfold controlS; rfl)
  obtain ⟨bd, hbd⟩ : ∃ b, s.bad = b := ⟨_, rfl⟩
  obtain ⟨A, cp, hvm⟩ := h.m.slice
  obtain ⟨n, hn⟩ : ∃ n, s.mid.length = n := ⟨_, rfl⟩
  rw [hn] at hvm
  have c2 : w.cell? ⟨P, 2, none⟩ = some (.slice A n cp) := by rw [← hvm]; exact h.cell rfl
  have c5 : w.cell? ⟨P, 5, none⟩ = some (.bool s.bad) := h.cell rfl
  rw [hbd] at c5
  have hf5 : w.frozen? ⟨P, 5, none⟩ = false := frozen_of_row w P 5 _ _ h.hP
  have HB : Hid (∀ b, badS s = { s with bad := b } → PW (w.setCell ⟨P, 5, none⟩ (.bool b)) P base (badS s) vm vp vt) := Lib.hid (fun b hb => by rw [hb]; exact h.set rfl rfl rfl rfl)
  have HOKB : Hid (VOk (badS s)) := Lib.hid (badS_ok ho)
  have HBD : Hid (∀ b, (bd || decide (0 < n)) = b → badS s = { s with bad := b }) := Lib.hid (fun b hb => by unfold badS; rw [hbd, hn, hb])
  clear h hn hvm hbd ho hbase
  have arm : ∀ b, (bd || decide (0 < n)) = b → Hid (PW (w.setCell ⟨P, 5, none⟩ (.bool b)) P base (badS s) vm vp vt) ∧ Hid (∀ w9, PStep (w.setCell ⟨P, 5, none⟩ (.bool b)) w9 P base (anotherS (badS s)) vm vp vt → TakeOk w w9 P base (controlS s 59) vm vp vt (.slice none 0 0)) ∧ Hid (base ≤ (w.setCell ⟨P, 5, none⟩ (.bool b)).heap.size) := fun b hb =>
    ⟨Lib.hid (HB.out b (HBD.out b hb)), Lib.hid (fun w9 hp => by
      rw [HCS.out]
      exact TakeOk.no (PStep.then (Inv.ofSet (S := PB P vm vp vt) (.inl rfl)) (fun g hg => .inl hg) hp)), Lib.hid (by simp; exact HBS.out)⟩
  clear HB HBD HCS
  cases bd with
  | true =>
    obtain ⟨HP1, HT1, HS1⟩ := arm true rfl
    clear arm
    go_enter Try.func24, Try.ntmps24
    go_wp2_with fail
    refine (another_any P base (badS s) vm vp vt _ HP1.out HOKB.out HS1.out).mono ?_
    rintro e w9 ⟨rfl, hp⟩
    have HF := Lib.hid (HT1.out w9 hp)
    clear hp
    go_wp2_with fail
    go_ret
    exact ⟨_, rfl, HF.out⟩
  | false =>
    by_cases h0 : 0 < n
    · obtain ⟨HP1, HT1, HS1⟩ := arm true (by simpa using h0)
      clear arm
      go_enter Try.func24, Try.ntmps24
      go_wp2_with fail
      refine (another_any P base (badS s) vm vp vt _ HP1.out HOKB.out HS1.out).mono ?_
      rintro e w9 ⟨rfl, hp⟩
      have HF := Lib.hid (HT1.out w9 hp)
      clear hp
      go_wp2_with fail
      go_ret
      exact ⟨_, rfl, HF.out⟩
    · obtain ⟨HP1, HT1, HS1⟩ := arm false (by simpa using h0)
      obtain rfl : n = 0 := by omega
      clear arm h0
      go_enter Try.func24, Try.ntmps24
      go_wp2_with fail
      refine (another_any P base (badS s) vm vp vt _ HP1.out HOKB.out HS1.out).mono ?_
      rintro e w9 ⟨rfl, hp⟩
      have HF := Lib.hid (HT1.out w9 hp)
      clear hp
      go_wp2_with fail
      go_ret
      exact ⟨_, rfl, HF.out⟩
theorem control_colon (P base : Nat) (s : VS) (vm vp vt : Value) (c : Int) (hc : c = 58) (w : World) (h : PW w P base s vm vp vt) (ho : VOk s) (hbase : base ≤ w.heap.size) :
    Calls Try.prog 24 #[.pointer (some ⟨P, 0, none⟩), .int .i32 c] w fun e w' => ∃ v, e = .returned v ∧ TakeOk w w' P base (controlS s c) vm vp vt v := by
  obtain rfl : c = 58 := hc
  have H := Lib.hid h
  have HOK := Lib.hid ho
  have HBS := Lib.hid hbase
  have hPl := lt_of_heap h.hP
  have hf5 : w.frozen? ⟨P, 5, none⟩ = false := frozen_of_row w P 5 _ _ h.hP
  have c5 : w.cell? ⟨P, 5, none⟩ = some (.bool s.bad) := h.cell rfl
  have HF : Hid (TakeOk w (w.setCell ⟨P, 5, none⟩ (.bool true)) P base (controlS s 58) vm vp vt (.slice none 0 0)) := Lib.hid (TakeOk.no (PStep.set h rfl rfl rfl rfl))
  clear h ho hbase
  go_enter Try.func24, Try.ntmps24
  go_wp2_with fail
  go_ret
  exact ⟨_, rfl, HF.out⟩
theorem control_add (P base : Nat) (s : VS) (vm vp vt : Value) (c : Int) (hc : 32 ≤ c ∧ c < 48) (w : World) (h : PW w P base s vm vp vt) (ho : VOk s) (hbase : base ≤ w.heap.size) :
    Calls Try.prog 24 #[.pointer (some ⟨P, 0, none⟩), .int .i32 c] w fun e w' => ∃ v, e = .returned v ∧ TakeOk w w' P base (controlS s c) vm vp vt v := by
  have H := Lib.hid h
  have HOK := Lib.hid ho
  have HBS := Lib.hid hbase
  have hPl := lt_of_heap h.hP
  have HCS : Hid (controlS s c = (addS s c, [])) := Lib.hid (by unfold controlS; rw [if_neg (by omega), if_neg (by omega), if_neg (by omega), if_neg (by omega), if_pos hc])
  have hy0 : 32 ≤ c := by omega
  have hy1 : c < 48 := by omega
  have hn0 : ¬ 48 ≤ c := by omega
  have hn1 : ¬ 60 ≤ c := by omega
  have hne59 : (c == 59) = false := by simp; omega
  have hne58 : (c == 58) = false := by simp; omega
  have HADD := Lib.hid (add_any P base s vm vp vt c (by omega) w h ho hbase)
  clear h ho hbase hc
  go_enter Try.func24, Try.ntmps24
  go_wp2_with fail
  refine HADD.out.mono ?_
  rintro e w9 ⟨rfl, hp⟩
  have HF : Hid (TakeOk w w9 P base (controlS s c) vm vp vt (.slice none 0 0)) := Lib.hid (by rw [HCS.out]; exact TakeOk.no hp)
  clear hp
  go_wp2_with fail
  go_ret
  exact ⟨_, rfl, HF.out⟩
theorem control_high (P base : Nat) (s : VS) (vm vp vt : Value) (c : Int) (hc : 128 ≤ c) (w : World) (h : PW w P base s vm vp vt) (ho : VOk s) (hbase : base ≤ w.heap.size) :
    Calls Try.prog 24 #[.pointer (some ⟨P, 0, none⟩), .int .i32 c] w fun e w' => ∃ v, e = .returned v ∧ TakeOk w w' P base (controlS s c) vm vp vt v := by
  have H := Lib.hid h
  have HOK := Lib.hid ho
  have HBS := Lib.hid hbase
  have hPl := lt_of_heap h.hP
  have HCS : Hid (controlS s c = (freshS 1, [])) := Lib.hid (by unfold controlS; rw [if_neg (by omega), if_neg (by omega), if_neg (by omega), if_neg (by omega), if_neg (by omega), if_neg (by omega), if_pos hc])
  have hy0 : 48 ≤ c := by omega
  have hy1 : 60 ≤ c := by omega
  have hy2 : 32 ≤ c := by omega
  have hy3 : 64 ≤ c := by omega
  have hy4 : 128 ≤ c := by omega
  have hn0 : ¬ c ≤ 57 := by omega
  have hn1 : ¬ c ≤ 63 := by omega
  have hn2 : ¬ c < 48 := by omega
  have hn3 : ¬ c < 127 := by omega
  have hne59 : (c == 59) = false := by simp; omega
  have hne58 : (c == 58) = false := by simp; omega
  clear h ho hbase
  go_enter Try.func24, Try.ntmps24
  go_wp2_with fail
  refine (to_any P base 1 s vm vp vt w H.out).mono ?_
  rintro e w9 ⟨rfl, hp, hI⟩
  have HF : Hid (TakeOk w w9 P base (controlS s c) vm vp vt (.slice none 0 0)) := Lib.hid (by rw [HCS.out]; exact TakeOk.no (PStep.to hp hI))
  clear hp hI
  go_wp2_with fail
  go_ret
  exact ⟨_, rfl, HF.out⟩
theorem control_low (P base : Nat) (s : VS) (vm vp vt : Value) (c : Int) (hc : c < 32) (w : World) (h : PW w P base s vm vp vt) (ho : VOk s) (hbase : base ≤ w.heap.size) :
    Calls Try.prog 24 #[.pointer (some ⟨P, 0, none⟩), .int .i32 c] w fun e w' => ∃ v, e = .returned v ∧ TakeOk w w' P base (controlS s c) vm vp vt v := by
  have H := Lib.hid h
  have HOK := Lib.hid ho
  have HBS := Lib.hid hbase
  have hPl := lt_of_heap h.hP
  have HF : Hid (TakeOk w w P base (controlS s c) vm vp vt (.slice none 0 0)) := Lib.hid (by
    have e : controlS s c = (s, []) := by unfold controlS; rw [if_neg (by omega), if_neg (by omega), if_neg (by omega), if_neg (by omega), if_neg (by omega), if_neg (by omega), if_neg (by omega)]
    rw [e]; exact TakeOk.no (PStep.refl h))
  have hn0 : ¬ 48 ≤ c := by omega
  have hn1 : ¬ 60 ≤ c := by omega
  have hn2 : ¬ 32 ≤ c := by omega
  have hn3 : ¬ 64 ≤ c := by omega
  have hn4 : ¬ 128 ≤ c := by omega
  have hne59 : (c == 59) = false := by simp; omega
  have hne58 : (c == 58) = false := by simp; omega
  clear h ho hbase
  go_enter Try.func24, Try.ntmps24
  go_wp2_with fail
  go_ret
  exact ⟨_, rfl, HF.out⟩
theorem control_del (P base : Nat) (s : VS) (vm vp vt : Value) (c : Int) (hc : c = 127) (w : World) (h : PW w P base s vm vp vt) (ho : VOk s) (hbase : base ≤ w.heap.size) :
    Calls Try.prog 24 #[.pointer (some ⟨P, 0, none⟩), .int .i32 c] w fun e w' => ∃ v, e = .returned v ∧ TakeOk w w' P base (controlS s c) vm vp vt v := by
  obtain rfl : c = 127 := hc
  have H := Lib.hid h
  have HOK := Lib.hid ho
  have HBS := Lib.hid hbase
  have hPl := lt_of_heap h.hP
  have HF : Hid (TakeOk w w P base (controlS s 127) vm vp vt (.slice none 0 0)) := Lib.hid (by
    have e : controlS s 127 = (s, []) := by rfl
    rw [e]; exact TakeOk.no (PStep.refl h))
  clear h ho hbase
  go_enter Try.func24, Try.ntmps24
  go_wp2_with fail
  go_ret
  exact ⟨_, rfl, HF.out⟩
theorem control_priv (P base : Nat) (s : VS) (vm vp vt : Value) (c : Int) (hc : 60 ≤ c ∧ c ≤ 63) (w : World) (h : PW w P base s vm vp vt) (ho : VOk s) (hbase : base ≤ w.heap.size) :
    Calls Try.prog 24 #[.pointer (some ⟨P, 0, none⟩), .int .i32 c] w fun e w' => ∃ v, e = .returned v ∧ TakeOk w w' P base (controlS s c) vm vp vt v := by
  have H := Lib.hid h
  have HOK := Lib.hid ho
  have HBS := Lib.hid hbase
  have hPl := lt_of_heap h.hP
  have HCS : Hid (controlS s c = (privS s c, [])) := Lib.hid (by unfold controlS; rw [if_neg (by omega), if_neg (by omega), if_neg (by omega), if_pos hc])
  have hy0 : 48 ≤ c := by omega
  have hy1 : 60 ≤ c := by omega
  have hy2 : c ≤ 63 := by omega
  have hn0 : ¬ c ≤ 57 := by omega
  have hne59 : (c == 59) = false := by simp; omega
  have hne58 : (c == 58) = false := by simp; omega
  have hwc : IntKind.u8.wrap c = c := by rw [IntKind.wrap_u8]; omega
  obtain ⟨A, cp, hvm⟩ := h.m.slice
  obtain ⟨A2, cp2, hvp⟩ := h.p.slice
  obtain ⟨n, hn⟩ : ∃ n, s.mid.length = n := ⟨_, rfl⟩
  obtain ⟨n2, hn2⟩ : ∃ n, s.ps.length = n := ⟨_, rfl⟩
  obtain ⟨q, hq⟩ : ∃ q, s.pv = q := ⟨_, rfl⟩
  rw [hn] at hvm
  rw [hn2] at hvp
  have c1 : w.cell? ⟨P, 1, none⟩ = some (.int .u8 s.pv) := h.cell rfl
  rw [hq] at c1
  have c2 : w.cell? ⟨P, 2, none⟩ = some (.slice A n cp) := by rw [← hvm]; exact h.cell rfl
  have c3 : w.cell? ⟨P, 3, none⟩ = some (.slice A2 n2 cp2) := by rw [← hvp]; exact h.cell rfl
  have c5 : w.cell? ⟨P, 5, none⟩ = some (.bool s.bad) := h.cell rfl
  have hf1 : w.frozen? ⟨P, 1, none⟩ = false := frozen_of_row w P 1 _ _ h.hP
  have hf5 : w.frozen? ⟨P, 5, none⟩ = false := frozen_of_row w P 5 _ _ h.hP
  have HT : Hid ((decide (q ≠ 0) || (decide (0 < n) || decide (0 < n2))) = true → TakeOk w ((w.setCell ⟨P, 5, none⟩ (.bool true)).setCell ⟨P, 1, none⟩ (.int .u8 c)) P base (controlS s c) vm vp vt (.slice none 0 0)) := Lib.hid (fun hb => by
    rw [HCS.out]
    have e : privS s c = { { s with bad := true } with pv := c } := by unfold privS; rw [hq, hn, hn2, hb]; simp
    rw [e]
    exact TakeOk.no (PStep.then (Inv.ofSet (S := PB P vm vp vt) (.inl rfl)) (fun g hg => .inl hg) (PStep.set (h.set (s' := { s with bad := true }) rfl rfl rfl rfl) rfl rfl rfl rfl)))
  have HN : Hid ((decide (q ≠ 0) || (decide (0 < n) || decide (0 < n2))) = false → TakeOk w (w.setCell ⟨P, 1, none⟩ (.int .u8 c)) P base (controlS s c) vm vp vt (.slice none 0 0)) := Lib.hid (fun hb => by
    rw [HCS.out]
    have e : privS s c = { s with pv := c } := by unfold privS; rw [hq, hn, hn2, hb]; simp
    rw [e]
    exact TakeOk.no (PStep.set h rfl rfl rfl rfl))
  clear h ho hbase hn hn2 hvm hvp hq HCS
  rcases Decidable.em (q = 0) with rfl | hq0
  · by_cases h0 : 0 < n
    · have HF := Lib.hid (HT.out (by simp [h0]))
      go_enter Try.func24, Try.ntmps24
      go_wp2_with fail
      go_ret
      exact ⟨_, rfl, HF.out⟩
    · obtain rfl : n = 0 := by omega
      clear h0
      by_cases h0 : 0 < n2
      · have HF := Lib.hid (HT.out (by simp [h0]))
        go_enter Try.func24, Try.ntmps24
        go_wp2_with fail
        go_ret
        exact ⟨_, rfl, HF.out⟩
      · obtain rfl : n2 = 0 := by omega
        clear h0
        have HF := Lib.hid (HN.out (by simp))
        go_enter Try.func24, Try.ntmps24
        go_wp2_with fail
        go_ret
        exact ⟨_, rfl, HF.out⟩
  · have HF := Lib.hid (HT.out (by simp [hq0]))
    go_enter Try.func24, Try.ntmps24
    go_wp2_with fail
    go_ret
    exact ⟨_, rfl, HF.out⟩
theorem control_end (P base : Nat) (s : VS) (vm vp vt : Value) (c : Int) (hc : 64 ≤ c ∧ c < 127) (w : World) (h : PW w P base s vm vp vt) (ho : VOk s) (hbase : base ≤ w.heap.size) :
    Calls Try.prog 24 #[.pointer (some ⟨P, 0, none⟩), .int .i32 c] w fun e w' => ∃ v, e = .returned v ∧ TakeOk w w' P base (controlS s c) vm vp vt v := by
  have H := Lib.hid h
  have HOK := Lib.hid ho
  have HBS := Lib.hid hbase
  have hPl := lt_of_heap h.hP
  have hy0 : 48 ≤ c := by omega
  have hy1 : 60 ≤ c := by omega
  have hy2 : 32 ≤ c := by omega
  have hy3 : 64 ≤ c := by omega
  have hy4 : c < 127 := by omega
  have hn0 : ¬ c ≤ 57 := by omega
  have hn1 : ¬ c ≤ 63 := by omega
  have hn2 : ¬ c < 48 := by omega
  have hne59 : (c == 59) = false := by simp; omega
  have hne58 : (c == 58) = false := by simp; omega
  have hz : ∀ w, (zeroValue 31).run Try.prog w = .ok (.agg #[.int .u8 0, .int .i32 0, .int .u8 0, .int .u8 0, .slice none 0 0, .slice none 0 0, .slice none 0 0]) w := zero_act
  have hwc : IntKind.u8.wrap c = c := by rw [IntKind.wrap_u8]; omega
  obtain ⟨A, cp, hvm, hA, hcp, hr⟩ := h.m.full
  obtain ⟨A2, cp2, hvp, hA2, hcp2, hr2⟩ := h.p.full
  have HCS : Hid (controlS s c = (freshS 1, endR s ⟨4, 0, s.pv, c, s.mid, s.ps, []⟩)) := Lib.hid (by unfold controlS; rw [if_neg (by omega), if_neg (by omega), if_neg (by omega), if_neg (by omega), if_neg (by omega), if_pos hc])
  have HR : Hid (RdO .u8 5 w base (.slice A s.mid.length s.mid.length) s.mid ∧ RdO .i64 3 w base (.slice A2 s.ps.length s.ps.length) s.ps ∧ vm = .slice A s.mid.length cp ∧ vp = .slice A2 s.ps.length cp2) := Lib.hid ⟨hr, hr2, hvm, hvp⟩
  obtain ⟨n, hn⟩ : ∃ n, s.mid.length = n := ⟨_, rfl⟩
  obtain ⟨n2, hn2⟩ : ∃ n, s.ps.length = n := ⟨_, rfl⟩
  rw [hn] at hvm hcp HR
  rw [hn2] at hvp hcp2 HR
  have c1 : w.cell? ⟨P, 1, none⟩ = some (.int .u8 s.pv) := h.cell rfl
  have d2 : w.cell? ⟨P, 2, none⟩ = some (.slice A n cp) := by rw [← hvm]; exact h.cell rfl
  have d3 : w.cell? ⟨P, 3, none⟩ = some (.slice A2 n2 cp2) := by rw [← hvp]; exact h.cell rfl
  have HBD : Hid (Below w.heap.size w w.drew) := Lib.hid (Below.drew (Below.refl _ _))
  have HD := Lib.hid (h.below HBD.out)
  have HEND := Lib.hid (end_any P base s vm vp vt (.slice A n n) (.slice A2 n2 n2) (.slice none 0 0) 4 0 s.pv c w.drew HD.out ⟨⟨_, _, _, rfl⟩, ⟨_, _, _, rfl⟩, ⟨_, _, _, rfl⟩⟩)
  have HK : Hid (∀ w9 v9, EndOk w.drew w9 P base s.bad #[.int .u8 4, .int .i32 0, .int .u8 s.pv, .int .u8 c, .slice A n n, .slice A2 n2 n2, .slice none 0 0] v9 → TakeOk w w9 P base (controlS s c) vm vp vt v9) := Lib.hid (fun w9 v9 he => by
    rw [HCS.out]
    refine TakeOk.later HBD.out (TakeOk.ends (a := ⟨4, 0, s.pv, c, .slice A n n, .slice A2 n2 n2, .slice none 0 0, s.mid, s.ps, []⟩) HD.out he ⟨HR.out.1.below HBD.out, HR.out.2.1.below HBD.out, RdO.nil _ _ _ _⟩ (fun b hb => ?_) HBS.out)
    rcases hb with hb | hb | hb
    · have hb' : vm.ownBlock = some b := by rw [HR.out.2.2.1]; cases A with | none => cases hb | some a => exact hb
      exact ⟨.inr (.inl hb'), fun e => H.out.notP.1 (by rw [hb', e])⟩
    · have hb' : vp.ownBlock = some b := by rw [HR.out.2.2.2]; cases A2 with | none => cases hb | some a => exact hb
      exact ⟨.inr (.inr (.inl hb')), fun e => H.out.notP.2.1 (by rw [hb', e])⟩
    · cases hb)
  obtain ⟨q, hq⟩ : ∃ q, s.pv = q := ⟨_, rfl⟩
  rw [hq] at c1 HEND HK
  clear h ho hbase hn hn2 hvm hvp hA hA2 hr hr2 hq hc HCS HR
  go_enter Try.func24, Try.ntmps24
  go_wp2_with (go_still_tail 45, (by kernel_rfl))
  refine HEND.out.mono ?_
  rintro e w9 ⟨v9, rfl, he⟩
  have HF := Lib.hid (HK.out w9 v9 he)
  clear he
  go_wp2_with fail
  go_ret
  exact ⟨_, rfl, HF.out⟩
theorem control_any (P base : Nat) (s : VS) (vm vp vt : Value) (c : Int) (hc : 0 ≤ c) (w : World) (h : PW w P base s vm vp vt) (ho : VOk s) (hbase : base ≤ w.heap.size) :
    Calls Try.prog 24 #[.pointer (some ⟨P, 0, none⟩), .int .i32 c] w fun e w' => ∃ v, e = .returned v ∧ TakeOk w w' P base (controlS s c) vm vp vt v := by
  by_cases h1 : 48 ≤ c ∧ c ≤ 57
  · exact control_digit P base s vm vp vt c h1 w h ho hbase
  · by_cases h2 : c = 59
    · exact control_another P base s vm vp vt c h2 w h ho hbase
    · by_cases h3 : c = 58
      · exact control_colon P base s vm vp vt c h3 w h ho hbase
      · by_cases h4 : 60 ≤ c ∧ c ≤ 63
        · exact control_priv P base s vm vp vt c h4 w h ho hbase
        · by_cases h5 : 32 ≤ c ∧ c < 48
          · exact control_add P base s vm vp vt c h5 w h ho hbase
          · by_cases h6 : 64 ≤ c ∧ c < 127
            · exact control_end P base s vm vp vt c h6 w h ho hbase
            · by_cases h7 : 128 ≤ c
              · exact control_high P base s vm vp vt c h7 w h ho hbase
              · by_cases h8 : c = 127
                · exact control_del P base s vm vp vt c h8 w h ho hbase
                · exact control_low P base s vm vp vt c (by omega) w h ho hbase
end Go.Proofs.Ytecgipccippddaa
