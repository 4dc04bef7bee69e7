/- What is proved: what Take of the reference's parser answers when it is called; conditions: those typed. -/
import Derived.Test.YtecgipccippddaaVtR4
set_option linter.unusedSimpArgs false
set_option linter.unusedVariables false
namespace Go.Proofs.Ytecgipccippddaa
open Go.RowKit
set_option maxRecDepth 100000
set_option maxHeartbeats 8000000
theorem rtake_neg (P base : Nat) (s : RS) (vm vp vt : Value) (c : Int) (hc : c < 0) (hst : s.st = 0 ∨ s.st = 4 ∨ s.st = 5) (w : World) (h : QW w P base s vm vp vt) (ho : ROk s) (hbase : base ≤ w.heap.size) :
    Calls Try.prog 15 #[.pointer (some ⟨P, 0, none⟩), .int .i32 c] w fun e w' => ∃ v, e = .returned v ∧ QTakeOk w w' P base (rtakeS s c) vm vp vt v := by
  have H := Lib.hid h
  have HOK := Lib.hid ho
  have HBS := Lib.hid hbase
  have hPl := lt_of_heap h.hP
  have hneg : c < 0 := hc
  rcases hst with hk | hk | hk
  · have c0 : w.cell? ⟨P, 0, none⟩ = some (.int .i64 0) := by have : w.cell? ⟨P, 0, none⟩ = some (.int .i64 s.st) := h.cell rfl; rw [hk] at this; exact this
    have HF : Hid (QTakeOk w w P base (rtakeS s c) vm vp vt (.slice none 0 0)) := Lib.hid (by
      have e : rtakeS s c = (s, []) := by unfold rtakeS; simp [if_pos hc, hk]
      rw [e]; exact QTakeOk.no (QStep.refl h))
    clear h ho hbase hk hc
    go_enter Try.func15, Try.ntmps15
    go_wp2_with fail
    go_ret
    exact ⟨_, rfl, HF.out⟩
  · have c0 : w.cell? ⟨P, 0, none⟩ = some (.int .i64 4) := by have : w.cell? ⟨P, 0, none⟩ = some (.int .i64 s.st) := h.cell rfl; rw [hk] at this; exact this
    have HF : Hid (QTakeOk w w P base (rtakeS s c) vm vp vt (.slice none 0 0)) := Lib.hid (by
      have e : rtakeS s c = (s, []) := by unfold rtakeS; simp [if_pos hc, hk]
      rw [e]; exact QTakeOk.no (QStep.refl h))
    clear h ho hbase hk hc
    go_enter Try.func15, Try.ntmps15
    go_wp2_with fail
    go_ret
    exact ⟨_, rfl, HF.out⟩
  · have c0 : w.cell? ⟨P, 0, none⟩ = some (.int .i64 5) := by have : w.cell? ⟨P, 0, none⟩ = some (.int .i64 s.st) := h.cell rfl; rw [hk] at this; exact this
    have HF : Hid (QTakeOk w w P base (rtakeS s c) vm vp vt (.slice none 0 0)) := Lib.hid (by
      have e : rtakeS s c = (s, []) := by unfold rtakeS; simp [if_pos hc, hk]
      rw [e]; exact QTakeOk.no (QStep.refl h))
    clear h ho hbase hk hc
    go_enter Try.func15, Try.ntmps15
    go_wp2_with fail
    go_ret
    exact ⟨_, rfl, HF.out⟩
theorem rtake_neg_esc (P base : Nat) (s : RS) (vm vp vt : Value) (c : Int) (hc : c < 0) (hst : s.st = 1) (w : World) (h : QW w P base s vm vp vt) (ho : ROk s) (hbase : base ≤ w.heap.size) :
    Calls Try.prog 15 #[.pointer (some ⟨P, 0, none⟩), .int .i32 c] w fun e w' => ∃ v, e = .returned v ∧ QTakeOk w w' P base (rtakeS s c) vm vp vt v := by
  have H := Lib.hid h
  have HOK := Lib.hid ho
  have HBS := Lib.hid hbase
  have hPl := lt_of_heap h.hP
  have hneg : c < 0 := hc
  have hk : s.st = 1 := hst
  have c0 : w.cell? ⟨P, 0, none⟩ = some (.int .i64 1) := by have : w.cell? ⟨P, 0, none⟩ = some (.int .i64 s.st) := h.cell rfl; rw [hk] at this; exact this
  have HE : Hid (rtakeS s c = rescapedS s 127) := Lib.hid (by unfold rtakeS; simp [if_pos hc, hk])
  have HC := Lib.hid (rescaped_any P base s vm vp vt 127 (by omega) w h ho hbase)
  clear h ho hbase hk hc
  go_enter Try.func15, Try.ntmps15
  go_wp2_with fail
  refine HC.out.mono ?_
  rintro e w9 ⟨v9, rfl, ht⟩
  have HF : Hid (QTakeOk w w9 P base (rtakeS s c) vm vp vt v9) := Lib.hid (by rw [HE.out]; exact ht)
  clear ht
  go_wp2_with fail
  go_ret
  exact ⟨_, rfl, HF.out⟩
theorem rtake_neg_mid (P base : Nat) (s : RS) (vm vp vt : Value) (c : Int) (hc : c < 0) (hst : s.st = 2) (w : World) (h : QW w P base s vm vp vt) (ho : ROk s) (hbase : base ≤ w.heap.size) :
    Calls Try.prog 15 #[.pointer (some ⟨P, 0, none⟩), .int .i32 c] w fun e w' => ∃ v, e = .returned v ∧ QTakeOk w w' P base (rtakeS s c) vm vp vt v := by
  have H := Lib.hid h
  have HOK := Lib.hid ho
  have HBS := Lib.hid hbase
  have hPl := lt_of_heap h.hP
  have hneg : c < 0 := hc
  have hk : s.st = 2 := hst
  have c0 : w.cell? ⟨P, 0, none⟩ = some (.int .i64 2) := by have : w.cell? ⟨P, 0, none⟩ = some (.int .i64 s.st) := h.cell rfl; rw [hk] at this; exact this
  have HE : Hid (rtakeS s c = innerS s 127) := Lib.hid (by unfold rtakeS; simp [if_pos hc, hk])
  have HC := Lib.hid (rinner_any P base s vm vp vt 127 (by omega) w h ho hbase)
  clear h ho hbase hk hc
  go_enter Try.func15, Try.ntmps15
  go_wp2_with fail
  refine HC.out.mono ?_
  rintro e w9 ⟨v9, rfl, ht⟩
  have HF : Hid (QTakeOk w w9 P base (rtakeS s c) vm vp vt v9) := Lib.hid (by rw [HE.out]; exact ht)
  clear ht
  go_wp2_with fail
  go_ret
  exact ⟨_, rfl, HF.out⟩
theorem rtake_neg_csi (P base : Nat) (s : RS) (vm vp vt : Value) (c : Int) (hc : c < 0) (hst : s.st = 3) (w : World) (h : QW w P base s vm vp vt) (ho : ROk s) (hbase : base ≤ w.heap.size) :
    Calls Try.prog 15 #[.pointer (some ⟨P, 0, none⟩), .int .i32 c] w fun e w' => ∃ v, e = .returned v ∧ QTakeOk w w' P base (rtakeS s c) vm vp vt v := by
  have H := Lib.hid h
  have HOK := Lib.hid ho
  have HBS := Lib.hid hbase
  have hPl := lt_of_heap h.hP
  have hneg : c < 0 := hc
  have hk : s.st = 3 := hst
  have c0 : w.cell? ⟨P, 0, none⟩ = some (.int .i64 3) := by have : w.cell? ⟨P, 0, none⟩ = some (.int .i64 s.st) := h.cell rfl; rw [hk] at this; exact this
  have HE : Hid (rtakeS s c = seqS s 127) := Lib.hid (by unfold rtakeS; simp [if_pos hc, hk])
  have HC := Lib.hid (rseq_any P base s vm vp vt 127 (by omega) w h ho hbase)
  clear h ho hbase hk hc
  go_enter Try.func15, Try.ntmps15
  go_wp2_with fail
  refine HC.out.mono ?_
  rintro e w9 ⟨v9, rfl, ht⟩
  have HF : Hid (QTakeOk w w9 P base (rtakeS s c) vm vp vt v9) := Lib.hid (by rw [HE.out]; exact ht)
  clear ht
  go_wp2_with fail
  go_ret
  exact ⟨_, rfl, HF.out⟩
theorem rtake_can (P base : Nat) (s : RS) (vm vp vt : Value) (c : Int) (hc : c = 24) (hst : s.st = 0 ∨ s.st = 1 ∨ s.st = 2 ∨ s.st = 3 ∨ s.st = 4 ∨ s.st = 5) (w : World) (h : QW w P base s vm vp vt) (ho : ROk s) (hbase : base ≤ w.heap.size) :
    Calls Try.prog 15 #[.pointer (some ⟨P, 0, none⟩), .int .i32 c] w fun e w' => ∃ v, e = .returned v ∧ QTakeOk w w' P base (rtakeS s c) vm vp vt v := by
  obtain rfl : c = 24 := hc
  have H := Lib.hid h
  have HOK := Lib.hid ho
  have HBS := Lib.hid hbase
  have hPl := lt_of_heap h.hP
  rcases hst with hk | hk | hk | hk | hk | hk
  · have c0 : w.cell? ⟨P, 0, none⟩ = some (.int .i64 0) := by have : w.cell? ⟨P, 0, none⟩ = some (.int .i64 s.st) := h.cell rfl; rw [hk] at this; exact this
    have HE : Hid (rtakeS s 24 = (freshR 0, [])) := Lib.hid (by unfold rtakeS; simp [hk])
    clear h ho hbase hk
    go_enter Try.func15, Try.ntmps15
    go_wp2_with fail
    refine (rto_any P base 0 s vm vp vt w H.out).mono ?_
    rintro e w2 ⟨rfl, hp, hI⟩
    have HF : Hid (QTakeOk w w2 P base (rtakeS s 24) vm vp vt (.slice none 0 0)) := Lib.hid (by rw [HE.out]; exact QTakeOk.no (QStep.to hp hI))
    clear hp hI
    go_wp2_with fail
    go_ret
    exact ⟨_, rfl, HF.out⟩
  · have c0 : w.cell? ⟨P, 0, none⟩ = some (.int .i64 1) := by have : w.cell? ⟨P, 0, none⟩ = some (.int .i64 s.st) := h.cell rfl; rw [hk] at this; exact this
    have HE : Hid (rtakeS s 24 = (freshR 0, [])) := Lib.hid (by unfold rtakeS; simp [hk])
    clear h ho hbase hk
    go_enter Try.func15, Try.ntmps15
    go_wp2_with fail
    refine (rto_any P base 0 s vm vp vt w H.out).mono ?_
    rintro e w2 ⟨rfl, hp, hI⟩
    have HF : Hid (QTakeOk w w2 P base (rtakeS s 24) vm vp vt (.slice none 0 0)) := Lib.hid (by rw [HE.out]; exact QTakeOk.no (QStep.to hp hI))
    clear hp hI
    go_wp2_with fail
    go_ret
    exact ⟨_, rfl, HF.out⟩
  · have c0 : w.cell? ⟨P, 0, none⟩ = some (.int .i64 2) := by have : w.cell? ⟨P, 0, none⟩ = some (.int .i64 s.st) := h.cell rfl; rw [hk] at this; exact this
    have HE : Hid (rtakeS s 24 = (freshR 0, [])) := Lib.hid (by unfold rtakeS; simp [hk])
    clear h ho hbase hk
    go_enter Try.func15, Try.ntmps15
    go_wp2_with fail
    refine (rto_any P base 0 s vm vp vt w H.out).mono ?_
    rintro e w2 ⟨rfl, hp, hI⟩
    have HF : Hid (QTakeOk w w2 P base (rtakeS s 24) vm vp vt (.slice none 0 0)) := Lib.hid (by rw [HE.out]; exact QTakeOk.no (QStep.to hp hI))
    clear hp hI
    go_wp2_with fail
    go_ret
    exact ⟨_, rfl, HF.out⟩
  · have c0 : w.cell? ⟨P, 0, none⟩ = some (.int .i64 3) := by have : w.cell? ⟨P, 0, none⟩ = some (.int .i64 s.st) := h.cell rfl; rw [hk] at this; exact this
    have HE : Hid (rtakeS s 24 = (freshR 0, [])) := Lib.hid (by unfold rtakeS; simp [hk])
    clear h ho hbase hk
    go_enter Try.func15, Try.ntmps15
    go_wp2_with fail
    refine (rto_any P base 0 s vm vp vt w H.out).mono ?_
    rintro e w2 ⟨rfl, hp, hI⟩
    have HF : Hid (QTakeOk w w2 P base (rtakeS s 24) vm vp vt (.slice none 0 0)) := Lib.hid (by rw [HE.out]; exact QTakeOk.no (QStep.to hp hI))
    clear hp hI
    go_wp2_with fail
    go_ret
    exact ⟨_, rfl, HF.out⟩
  · have c0 : w.cell? ⟨P, 0, none⟩ = some (.int .i64 4) := by have : w.cell? ⟨P, 0, none⟩ = some (.int .i64 s.st) := h.cell rfl; rw [hk] at this; exact this
    have HE : Hid (rtakeS s 24 = (freshR 0, [])) := Lib.hid (by unfold rtakeS; simp [hk])
    clear h ho hbase hk
    go_enter Try.func15, Try.ntmps15
    go_wp2_with fail
    refine (rto_any P base 0 s vm vp vt w H.out).mono ?_
    rintro e w2 ⟨rfl, hp, hI⟩
    have HF : Hid (QTakeOk w w2 P base (rtakeS s 24) vm vp vt (.slice none 0 0)) := Lib.hid (by rw [HE.out]; exact QTakeOk.no (QStep.to hp hI))
    clear hp hI
    go_wp2_with fail
    go_ret
    exact ⟨_, rfl, HF.out⟩
  · have c0 : w.cell? ⟨P, 0, none⟩ = some (.int .i64 5) := by have : w.cell? ⟨P, 0, none⟩ = some (.int .i64 s.st) := h.cell rfl; rw [hk] at this; exact this
    have HE : Hid (rtakeS s 24 = (freshR 0, [])) := Lib.hid (by unfold rtakeS; simp [hk])
    clear h ho hbase hk
    go_enter Try.func15, Try.ntmps15
    go_wp2_with fail
    refine (rto_any P base 0 s vm vp vt w H.out).mono ?_
    rintro e w2 ⟨rfl, hp, hI⟩
    have HF : Hid (QTakeOk w w2 P base (rtakeS s 24) vm vp vt (.slice none 0 0)) := Lib.hid (by rw [HE.out]; exact QTakeOk.no (QStep.to hp hI))
    clear hp hI
    go_wp2_with fail
    go_ret
    exact ⟨_, rfl, HF.out⟩
theorem rtake_sub (P base : Nat) (s : RS) (vm vp vt : Value) (c : Int) (hc : c = 26) (hst : s.st = 0 ∨ s.st = 1 ∨ s.st = 2 ∨ s.st = 3 ∨ s.st = 4 ∨ s.st = 5) (w : World) (h : QW w P base s vm vp vt) (ho : ROk s) (hbase : base ≤ w.heap.size) :
    Calls Try.prog 15 #[.pointer (some ⟨P, 0, none⟩), .int .i32 c] w fun e w' => ∃ v, e = .returned v ∧ QTakeOk w w' P base (rtakeS s c) vm vp vt v := by
  obtain rfl : c = 26 := hc
  have H := Lib.hid h
  have HOK := Lib.hid ho
  have HBS := Lib.hid hbase
  have hPl := lt_of_heap h.hP
  rcases hst with hk | hk | hk | hk | hk | hk
  · have c0 : w.cell? ⟨P, 0, none⟩ = some (.int .i64 0) := by have : w.cell? ⟨P, 0, none⟩ = some (.int .i64 s.st) := h.cell rfl; rw [hk] at this; exact this
    have HE : Hid (rtakeS s 26 = (freshR 0, [])) := Lib.hid (by unfold rtakeS; simp [hk])
    clear h ho hbase hk
    go_enter Try.func15, Try.ntmps15
    go_wp2_with fail
    refine (rto_any P base 0 s vm vp vt w H.out).mono ?_
    rintro e w2 ⟨rfl, hp, hI⟩
    have HF : Hid (QTakeOk w w2 P base (rtakeS s 26) vm vp vt (.slice none 0 0)) := Lib.hid (by rw [HE.out]; exact QTakeOk.no (QStep.to hp hI))
    clear hp hI
    go_wp2_with fail
    go_ret
    exact ⟨_, rfl, HF.out⟩
  · have c0 : w.cell? ⟨P, 0, none⟩ = some (.int .i64 1) := by have : w.cell? ⟨P, 0, none⟩ = some (.int .i64 s.st) := h.cell rfl; rw [hk] at this; exact this
    have HE : Hid (rtakeS s 26 = (freshR 0, [])) := Lib.hid (by unfold rtakeS; simp [hk])
    clear h ho hbase hk
    go_enter Try.func15, Try.ntmps15
    go_wp2_with fail
    refine (rto_any P base 0 s vm vp vt w H.out).mono ?_
    rintro e w2 ⟨rfl, hp, hI⟩
    have HF : Hid (QTakeOk w w2 P base (rtakeS s 26) vm vp vt (.slice none 0 0)) := Lib.hid (by rw [HE.out]; exact QTakeOk.no (QStep.to hp hI))
    clear hp hI
    go_wp2_with fail
    go_ret
    exact ⟨_, rfl, HF.out⟩
  · have c0 : w.cell? ⟨P, 0, none⟩ = some (.int .i64 2) := by have : w.cell? ⟨P, 0, none⟩ = some (.int .i64 s.st) := h.cell rfl; rw [hk] at this; exact this
    have HE : Hid (rtakeS s 26 = (freshR 0, [])) := Lib.hid (by unfold rtakeS; simp [hk])
    clear h ho hbase hk
    go_enter Try.func15, Try.ntmps15
    go_wp2_with fail
    refine (rto_any P base 0 s vm vp vt w H.out).mono ?_
    rintro e w2 ⟨rfl, hp, hI⟩
    have HF : Hid (QTakeOk w w2 P base (rtakeS s 26) vm vp vt (.slice none 0 0)) := Lib.hid (by rw [HE.out]; exact QTakeOk.no (QStep.to hp hI))
    clear hp hI
    go_wp2_with fail
    go_ret
    exact ⟨_, rfl, HF.out⟩
  · have c0 : w.cell? ⟨P, 0, none⟩ = some (.int .i64 3) := by have : w.cell? ⟨P, 0, none⟩ = some (.int .i64 s.st) := h.cell rfl; rw [hk] at this; exact this
    have HE : Hid (rtakeS s 26 = (freshR 0, [])) := Lib.hid (by unfold rtakeS; simp [hk])
    clear h ho hbase hk
    go_enter Try.func15, Try.ntmps15
    go_wp2_with fail
    refine (rto_any P base 0 s vm vp vt w H.out).mono ?_
    rintro e w2 ⟨rfl, hp, hI⟩
    have HF : Hid (QTakeOk w w2 P base (rtakeS s 26) vm vp vt (.slice none 0 0)) := Lib.hid (by rw [HE.out]; exact QTakeOk.no (QStep.to hp hI))
    clear hp hI
    go_wp2_with fail
    go_ret
    exact ⟨_, rfl, HF.out⟩
  · have c0 : w.cell? ⟨P, 0, none⟩ = some (.int .i64 4) := by have : w.cell? ⟨P, 0, none⟩ = some (.int .i64 s.st) := h.cell rfl; rw [hk] at this; exact this
    have HE : Hid (rtakeS s 26 = (freshR 0, [])) := Lib.hid (by unfold rtakeS; simp [hk])
    clear h ho hbase hk
    go_enter Try.func15, Try.ntmps15
    go_wp2_with fail
    refine (rto_any P base 0 s vm vp vt w H.out).mono ?_
    rintro e w2 ⟨rfl, hp, hI⟩
    have HF : Hid (QTakeOk w w2 P base (rtakeS s 26) vm vp vt (.slice none 0 0)) := Lib.hid (by rw [HE.out]; exact QTakeOk.no (QStep.to hp hI))
    clear hp hI
    go_wp2_with fail
    go_ret
    exact ⟨_, rfl, HF.out⟩
  · have c0 : w.cell? ⟨P, 0, none⟩ = some (.int .i64 5) := by have : w.cell? ⟨P, 0, none⟩ = some (.int .i64 s.st) := h.cell rfl; rw [hk] at this; exact this
    have HE : Hid (rtakeS s 26 = (freshR 0, [])) := Lib.hid (by unfold rtakeS; simp [hk])
    clear h ho hbase hk
    go_enter Try.func15, Try.ntmps15
    go_wp2_with fail
    refine (rto_any P base 0 s vm vp vt w H.out).mono ?_
    rintro e w2 ⟨rfl, hp, hI⟩
    have HF : Hid (QTakeOk w w2 P base (rtakeS s 26) vm vp vt (.slice none 0 0)) := Lib.hid (by rw [HE.out]; exact QTakeOk.no (QStep.to hp hI))
    clear hp hI
    go_wp2_with fail
    go_ret
    exact ⟨_, rfl, HF.out⟩
theorem rtake_esc (P base : Nat) (s : RS) (vm vp vt : Value) (c : Int) (hc : c = 27) (hst : s.st = 0 ∨ s.st = 1 ∨ s.st = 2 ∨ s.st = 3 ∨ s.st = 5) (w : World) (h : QW w P base s vm vp vt) (ho : ROk s) (hbase : base ≤ w.heap.size) :
    Calls Try.prog 15 #[.pointer (some ⟨P, 0, none⟩), .int .i32 c] w fun e w' => ∃ v, e = .returned v ∧ QTakeOk w w' P base (rtakeS s c) vm vp vt v := by
  obtain rfl : c = 27 := hc
  have H := Lib.hid h
  have HOK := Lib.hid ho
  have HBS := Lib.hid hbase
  have hPl := lt_of_heap h.hP
  rcases hst with hk | hk | hk | hk | hk
  · have c0 : w.cell? ⟨P, 0, none⟩ = some (.int .i64 0) := by have : w.cell? ⟨P, 0, none⟩ = some (.int .i64 s.st) := h.cell rfl; rw [hk] at this; exact this
    have HE : Hid (rtakeS s 27 = (freshR 1, [])) := Lib.hid (by unfold rtakeS; simp [hk])
    clear h ho hbase hk
    go_enter Try.func15, Try.ntmps15
    go_wp2_with fail
    refine (rto_any P base 1 s vm vp vt w H.out).mono ?_
    rintro e w2 ⟨rfl, hp, hI⟩
    have HF : Hid (QTakeOk w w2 P base (rtakeS s 27) vm vp vt (.slice none 0 0)) := Lib.hid (by rw [HE.out]; exact QTakeOk.no (QStep.to hp hI))
    clear hp hI
    go_wp2_with fail
    go_ret
    exact ⟨_, rfl, HF.out⟩
  · have c0 : w.cell? ⟨P, 0, none⟩ = some (.int .i64 1) := by have : w.cell? ⟨P, 0, none⟩ = some (.int .i64 s.st) := h.cell rfl; rw [hk] at this; exact this
    have HE : Hid (rtakeS s 27 = (freshR 1, [])) := Lib.hid (by unfold rtakeS; simp [hk])
    clear h ho hbase hk
    go_enter Try.func15, Try.ntmps15
    go_wp2_with fail
    refine (rto_any P base 1 s vm vp vt w H.out).mono ?_
    rintro e w2 ⟨rfl, hp, hI⟩
    have HF : Hid (QTakeOk w w2 P base (rtakeS s 27) vm vp vt (.slice none 0 0)) := Lib.hid (by rw [HE.out]; exact QTakeOk.no (QStep.to hp hI))
    clear hp hI
    go_wp2_with fail
    go_ret
    exact ⟨_, rfl, HF.out⟩
  · have c0 : w.cell? ⟨P, 0, none⟩ = some (.int .i64 2) := by have : w.cell? ⟨P, 0, none⟩ = some (.int .i64 s.st) := h.cell rfl; rw [hk] at this; exact this
    have HE : Hid (rtakeS s 27 = (freshR 1, [])) := Lib.hid (by unfold rtakeS; simp [hk])
    clear h ho hbase hk
    go_enter Try.func15, Try.ntmps15
    go_wp2_with fail
    refine (rto_any P base 1 s vm vp vt w H.out).mono ?_
    rintro e w2 ⟨rfl, hp, hI⟩
    have HF : Hid (QTakeOk w w2 P base (rtakeS s 27) vm vp vt (.slice none 0 0)) := Lib.hid (by rw [HE.out]; exact QTakeOk.no (QStep.to hp hI))
    clear hp hI
    go_wp2_with fail
    go_ret
    exact ⟨_, rfl, HF.out⟩
  · have c0 : w.cell? ⟨P, 0, none⟩ = some (.int .i64 3) := by have : w.cell? ⟨P, 0, none⟩ = some (.int .i64 s.st) := h.cell rfl; rw [hk] at this; exact this
    have HE : Hid (rtakeS s 27 = (freshR 1, [])) := Lib.hid (by unfold rtakeS; simp [hk])
    clear h ho hbase hk
    go_enter Try.func15, Try.ntmps15
    go_wp2_with fail
    refine (rto_any P base 1 s vm vp vt w H.out).mono ?_
    rintro e w2 ⟨rfl, hp, hI⟩
    have HF : Hid (QTakeOk w w2 P base (rtakeS s 27) vm vp vt (.slice none 0 0)) := Lib.hid (by rw [HE.out]; exact QTakeOk.no (QStep.to hp hI))
    clear hp hI
    go_wp2_with fail
    go_ret
    exact ⟨_, rfl, HF.out⟩
  · have c0 : w.cell? ⟨P, 0, none⟩ = some (.int .i64 5) := by have : w.cell? ⟨P, 0, none⟩ = some (.int .i64 s.st) := h.cell rfl; rw [hk] at this; exact this
    have HE : Hid (rtakeS s 27 = (freshR 1, [])) := Lib.hid (by unfold rtakeS; simp [hk])
    clear h ho hbase hk
    go_enter Try.func15, Try.ntmps15
    go_wp2_with fail
    refine (rto_any P base 1 s vm vp vt w H.out).mono ?_
    rintro e w2 ⟨rfl, hp, hI⟩
    have HF : Hid (QTakeOk w w2 P base (rtakeS s 27) vm vp vt (.slice none 0 0)) := Lib.hid (by rw [HE.out]; exact QTakeOk.no (QStep.to hp hI))
    clear hp hI
    go_wp2_with fail
    go_ret
    exact ⟨_, rfl, HF.out⟩
theorem rtake_exec (P base : Nat) (s : RS) (vm vp vt : Value) (c : Int) (hc : 0 ≤ c ∧ c < 32 ∧ c ≠ 27 ∧ c ≠ 24 ∧ c ≠ 26) (hst : s.st = 0 ∨ s.st = 1 ∨ s.st = 2 ∨ s.st = 3) (w : World) (h : QW w P base s vm vp vt) (ho : ROk s) (hbase : base ≤ w.heap.size) :
    Calls Try.prog 15 #[.pointer (some ⟨P, 0, none⟩), .int .i32 c] w fun e w' => ∃ v, e = .returned v ∧ QTakeOk w w' P base (rtakeS s c) vm vp vt v := by
  have H := Lib.hid h
  have HOK := Lib.hid ho
  have HBS := Lib.hid hbase
  have hPl := lt_of_heap h.hP
  have hneg : ¬ c < 0 := by omega
  have hne27 : (c == 27) = false := by simp; omega
  have hne24 : (c == 24) = false := by simp; omega
  have hne26 : (c == 26) = false := by simp; omega
  have h32 : c < 32 := by omega
  rcases hst with hk | hk | hk | hk
  · have c0 : w.cell? ⟨P, 0, none⟩ = some (.int .i64 0) := by have : w.cell? ⟨P, 0, none⟩ = some (.int .i64 s.st) := h.cell rfl; rw [hk] at this; exact this
    have HF : Hid (QTakeOk w (w.alloc (.cells #[.int .u8 2, .int .i32 c, .int .u8 0, .int .u8 0, .slice none 0 0, .slice none 0 0, .slice none 0 0] 31)) P base (rtakeS s c) vm vp vt (.slice (some ⟨w.heap.size, 0, none⟩) 1 1)) := Lib.hid (by
      have e : rtakeS s c = (s, [⟨2, c, 0, 0, [], [], []⟩]) := by unfold rtakeS; rw [if_neg (show ¬ c < 0 by omega)]; simp only []; rw [if_neg (by omega), if_neg (by omega)]; rw [if_pos (by omega)]
      rw [e]; exact QTakeOk.plain (a := ⟨2, c, 0, 0, .slice none 0 0, .slice none 0 0, .slice none 0 0, [], [], []⟩) h ⟨rfl, rfl, rfl, rfl, rfl, rfl⟩ hbase)
    have hz : ∀ w, (zeroValue 31).run Try.prog w = .ok (.agg #[.int .u8 0, .int .i32 0, .int .u8 0, .int .u8 0, .slice none 0 0, .slice none 0 0, .slice none 0 0]) w := zero_act
    clear h ho hbase hk hc
    go_enter Try.func15, Try.ntmps15
    go_wp2_with fail
    go_ret
    exact ⟨_, rfl, HF.out⟩
  · have c0 : w.cell? ⟨P, 0, none⟩ = some (.int .i64 1) := by have : w.cell? ⟨P, 0, none⟩ = some (.int .i64 s.st) := h.cell rfl; rw [hk] at this; exact this
    have HF : Hid (QTakeOk w (w.alloc (.cells #[.int .u8 2, .int .i32 c, .int .u8 0, .int .u8 0, .slice none 0 0, .slice none 0 0, .slice none 0 0] 31)) P base (rtakeS s c) vm vp vt (.slice (some ⟨w.heap.size, 0, none⟩) 1 1)) := Lib.hid (by
      have e : rtakeS s c = (s, [⟨2, c, 0, 0, [], [], []⟩]) := by unfold rtakeS; rw [if_neg (show ¬ c < 0 by omega)]; simp only []; rw [if_neg (by omega), if_neg (by omega)]; rw [if_pos (by omega)]
      rw [e]; exact QTakeOk.plain (a := ⟨2, c, 0, 0, .slice none 0 0, .slice none 0 0, .slice none 0 0, [], [], []⟩) h ⟨rfl, rfl, rfl, rfl, rfl, rfl⟩ hbase)
    have hz : ∀ w, (zeroValue 31).run Try.prog w = .ok (.agg #[.int .u8 0, .int .i32 0, .int .u8 0, .int .u8 0, .slice none 0 0, .slice none 0 0, .slice none 0 0]) w := zero_act
    clear h ho hbase hk hc
    go_enter Try.func15, Try.ntmps15
    go_wp2_with fail
    go_ret
    exact ⟨_, rfl, HF.out⟩
  · have c0 : w.cell? ⟨P, 0, none⟩ = some (.int .i64 2) := by have : w.cell? ⟨P, 0, none⟩ = some (.int .i64 s.st) := h.cell rfl; rw [hk] at this; exact this
    have HF : Hid (QTakeOk w (w.alloc (.cells #[.int .u8 2, .int .i32 c, .int .u8 0, .int .u8 0, .slice none 0 0, .slice none 0 0, .slice none 0 0] 31)) P base (rtakeS s c) vm vp vt (.slice (some ⟨w.heap.size, 0, none⟩) 1 1)) := Lib.hid (by
      have e : rtakeS s c = (s, [⟨2, c, 0, 0, [], [], []⟩]) := by unfold rtakeS; rw [if_neg (show ¬ c < 0 by omega)]; simp only []; rw [if_neg (by omega), if_neg (by omega)]; rw [if_pos (by omega)]
      rw [e]; exact QTakeOk.plain (a := ⟨2, c, 0, 0, .slice none 0 0, .slice none 0 0, .slice none 0 0, [], [], []⟩) h ⟨rfl, rfl, rfl, rfl, rfl, rfl⟩ hbase)
    have hz : ∀ w, (zeroValue 31).run Try.prog w = .ok (.agg #[.int .u8 0, .int .i32 0, .int .u8 0, .int .u8 0, .slice none 0 0, .slice none 0 0, .slice none 0 0]) w := zero_act
    clear h ho hbase hk hc
    go_enter Try.func15, Try.ntmps15
    go_wp2_with fail
    go_ret
    exact ⟨_, rfl, HF.out⟩
  · have c0 : w.cell? ⟨P, 0, none⟩ = some (.int .i64 3) := by have : w.cell? ⟨P, 0, none⟩ = some (.int .i64 s.st) := h.cell rfl; rw [hk] at this; exact this
    have HF : Hid (QTakeOk w (w.alloc (.cells #[.int .u8 2, .int .i32 c, .int .u8 0, .int .u8 0, .slice none 0 0, .slice none 0 0, .slice none 0 0] 31)) P base (rtakeS s c) vm vp vt (.slice (some ⟨w.heap.size, 0, none⟩) 1 1)) := Lib.hid (by
      have e : rtakeS s c = (s, [⟨2, c, 0, 0, [], [], []⟩]) := by unfold rtakeS; rw [if_neg (show ¬ c < 0 by omega)]; simp only []; rw [if_neg (by omega), if_neg (by omega)]; rw [if_pos (by omega)]
      rw [e]; exact QTakeOk.plain (a := ⟨2, c, 0, 0, .slice none 0 0, .slice none 0 0, .slice none 0 0, [], [], []⟩) h ⟨rfl, rfl, rfl, rfl, rfl, rfl⟩ hbase)
    have hz : ∀ w, (zeroValue 31).run Try.prog w = .ok (.agg #[.int .u8 0, .int .i32 0, .int .u8 0, .int .u8 0, .slice none 0 0, .slice none 0 0, .slice none 0 0]) w := zero_act
    clear h ho hbase hk hc
    go_enter Try.func15, Try.ntmps15
    go_wp2_with fail
    go_ret
    exact ⟨_, rfl, HF.out⟩
theorem rtake_print (P base : Nat) (s : RS) (vm vp vt : Value) (c : Int) (hc : 32 ≤ c ∧ c < 127) (hst : s.st = 0) (w : World) (h : QW w P base s vm vp vt) (ho : ROk s) (hbase : base ≤ w.heap.size) :
    Calls Try.prog 15 #[.pointer (some ⟨P, 0, none⟩), .int .i32 c] w fun e w' => ∃ v, e = .returned v ∧ QTakeOk w w' P base (rtakeS s c) vm vp vt v := by
  have H := Lib.hid h
  have HOK := Lib.hid ho
  have HBS := Lib.hid hbase
  have hPl := lt_of_heap h.hP
  have hneg : ¬ c < 0 := by omega
  have hne27 : (c == 27) = false := by simp; omega
  have hne24 : (c == 24) = false := by simp; omega
  have hne26 : (c == 26) = false := by simp; omega
  have h32 : ¬ c < 32 := by omega
  have h32b : 32 ≤ c := by omega
  have h127 : c < 127 := by omega
  have hk : s.st = 0 := hst
  have c0 : w.cell? ⟨P, 0, none⟩ = some (.int .i64 0) := by have : w.cell? ⟨P, 0, none⟩ = some (.int .i64 s.st) := h.cell rfl; rw [hk] at this; exact this
  have HF : Hid (QTakeOk w (w.alloc (.cells #[.int .u8 1, .int .i32 c, .int .u8 0, .int .u8 0, .slice none 0 0, .slice none 0 0, .slice none 0 0] 31)) P base (rtakeS s c) vm vp vt (.slice (some ⟨w.heap.size, 0, none⟩) 1 1)) := Lib.hid (by
    have e : rtakeS s c = (s, [⟨1, c, 0, 0, [], [], []⟩]) := by unfold rtakeS; rw [if_neg (show ¬ c < 0 by omega)]; simp only []; rw [if_neg (by omega), if_neg (by omega)]; rw [if_neg (by omega)]; rw [if_pos hk, if_pos (by omega)]
    rw [e]; exact QTakeOk.plain (a := ⟨1, c, 0, 0, .slice none 0 0, .slice none 0 0, .slice none 0 0, [], [], []⟩) h ⟨rfl, rfl, rfl, rfl, rfl, rfl⟩ hbase)
  have hz : ∀ w, (zeroValue 31).run Try.prog w = .ok (.agg #[.int .u8 0, .int .i32 0, .int .u8 0, .int .u8 0, .slice none 0 0, .slice none 0 0, .slice none 0 0]) w := zero_act
  clear h ho hbase hk hc
  go_enter Try.func15, Try.ntmps15
  go_wp2_with fail
  go_ret
  exact ⟨_, rfl, HF.out⟩
theorem rtake_print2 (P base : Nat) (s : RS) (vm vp vt : Value) (c : Int) (hc : 160 ≤ c) (hst : s.st = 0) (w : World) (h : QW w P base s vm vp vt) (ho : ROk s) (hbase : base ≤ w.heap.size) :
    Calls Try.prog 15 #[.pointer (some ⟨P, 0, none⟩), .int .i32 c] w fun e w' => ∃ v, e = .returned v ∧ QTakeOk w w' P base (rtakeS s c) vm vp vt v := by
  have H := Lib.hid h
  have HOK := Lib.hid ho
  have HBS := Lib.hid hbase
  have hPl := lt_of_heap h.hP
  have hneg : ¬ c < 0 := by omega
  have hne27 : (c == 27) = false := by simp; omega
  have hne24 : (c == 24) = false := by simp; omega
  have hne26 : (c == 26) = false := by simp; omega
  have h32 : ¬ c < 32 := by omega
  have h32b : 32 ≤ c := by omega
  have h127 : ¬ c < 127 := by omega
  have h160 : 160 ≤ c := by omega
  have hk : s.st = 0 := hst
  have c0 : w.cell? ⟨P, 0, none⟩ = some (.int .i64 0) := by have : w.cell? ⟨P, 0, none⟩ = some (.int .i64 s.st) := h.cell rfl; rw [hk] at this; exact this
  have HF : Hid (QTakeOk w (w.alloc (.cells #[.int .u8 1, .int .i32 c, .int .u8 0, .int .u8 0, .slice none 0 0, .slice none 0 0, .slice none 0 0] 31)) P base (rtakeS s c) vm vp vt (.slice (some ⟨w.heap.size, 0, none⟩) 1 1)) := Lib.hid (by
    have e : rtakeS s c = (s, [⟨1, c, 0, 0, [], [], []⟩]) := by unfold rtakeS; rw [if_neg (show ¬ c < 0 by omega)]; simp only []; rw [if_neg (by omega), if_neg (by omega)]; rw [if_neg (by omega)]; rw [if_pos hk, if_pos (by omega)]
    rw [e]; exact QTakeOk.plain (a := ⟨1, c, 0, 0, .slice none 0 0, .slice none 0 0, .slice none 0 0, [], [], []⟩) h ⟨rfl, rfl, rfl, rfl, rfl, rfl⟩ hbase)
  have hz : ∀ w, (zeroValue 31).run Try.prog w = .ok (.agg #[.int .u8 0, .int .i32 0, .int .u8 0, .int .u8 0, .slice none 0 0, .slice none 0 0, .slice none 0 0]) w := zero_act
  clear h ho hbase hk hc
  go_enter Try.func15, Try.ntmps15
  go_wp2_with fail
  go_ret
  exact ⟨_, rfl, HF.out⟩
theorem rtake_midc (P base : Nat) (s : RS) (vm vp vt : Value) (c : Int) (hc : 127 ≤ c ∧ c < 160) (hst : s.st = 0) (w : World) (h : QW w P base s vm vp vt) (ho : ROk s) (hbase : base ≤ w.heap.size) :
    Calls Try.prog 15 #[.pointer (some ⟨P, 0, none⟩), .int .i32 c] w fun e w' => ∃ v, e = .returned v ∧ QTakeOk w w' P base (rtakeS s c) vm vp vt v := by
  have H := Lib.hid h
  have HOK := Lib.hid ho
  have HBS := Lib.hid hbase
  have hPl := lt_of_heap h.hP
  have hneg : ¬ c < 0 := by omega
  have hne27 : (c == 27) = false := by simp; omega
  have hne24 : (c == 24) = false := by simp; omega
  have hne26 : (c == 26) = false := by simp; omega
  have h32 : ¬ c < 32 := by omega
  have h32b : 32 ≤ c := by omega
  have h127 : ¬ c < 127 := by omega
  have h160 : ¬ 160 ≤ c := by omega
  have hk : s.st = 0 := hst
  have c0 : w.cell? ⟨P, 0, none⟩ = some (.int .i64 0) := by have : w.cell? ⟨P, 0, none⟩ = some (.int .i64 s.st) := h.cell rfl; rw [hk] at this; exact this
  have HF : Hid (QTakeOk w w P base (rtakeS s c) vm vp vt (.slice none 0 0)) := Lib.hid (by
    have e : rtakeS s c = (s, []) := by unfold rtakeS; rw [if_neg (show ¬ c < 0 by omega)]; simp only []; rw [if_neg (by omega), if_neg (by omega)]; rw [if_neg (by omega)]; rw [if_pos hk, if_neg (by omega)]
    rw [e]; exact QTakeOk.no (QStep.refl h))
  clear h ho hbase hk hc
  go_enter Try.func15, Try.ntmps15
  go_wp2_with fail
  go_ret
  exact ⟨_, rfl, HF.out⟩
theorem rtake_escaped (P base : Nat) (s : RS) (vm vp vt : Value) (c : Int) (hc : 32 ≤ c) (hst : s.st = 1) (w : World) (h : QW w P base s vm vp vt) (ho : ROk s) (hbase : base ≤ w.heap.size) :
    Calls Try.prog 15 #[.pointer (some ⟨P, 0, none⟩), .int .i32 c] w fun e w' => ∃ v, e = .returned v ∧ QTakeOk w w' P base (rtakeS s c) vm vp vt v := by
  have H := Lib.hid h
  have HOK := Lib.hid ho
  have HBS := Lib.hid hbase
  have hPl := lt_of_heap h.hP
  have hneg : ¬ c < 0 := by omega
  have hne27 : (c == 27) = false := by simp; omega
  have hne24 : (c == 24) = false := by simp; omega
  have hne26 : (c == 26) = false := by simp; omega
  have h32 : ¬ c < 32 := by omega
  have hk : s.st = 1 := hst
  have c0 : w.cell? ⟨P, 0, none⟩ = some (.int .i64 1) := by have : w.cell? ⟨P, 0, none⟩ = some (.int .i64 s.st) := h.cell rfl; rw [hk] at this; exact this
  have HE : Hid (rtakeS s c = rescapedS s c) := Lib.hid (by unfold rtakeS; rw [if_neg (show ¬ c < 0 by omega)]; simp only []; rw [if_neg (by omega), if_neg (by omega)]; rw [if_neg (by omega)]; rw [if_neg (by omega), if_pos hk])
  have HC := Lib.hid (rescaped_any P base s vm vp vt c (by omega) w h ho hbase)
  clear h ho hbase hk hc
  go_enter Try.func15, Try.ntmps15
  go_wp2_with fail
  refine HC.out.mono ?_
  rintro e w9 ⟨v9, rfl, ht⟩
  have HF : Hid (QTakeOk w w9 P base (rtakeS s c) vm vp vt v9) := Lib.hid (by rw [HE.out]; exact ht)
  clear ht
  go_wp2_with fail
  go_ret
  exact ⟨_, rfl, HF.out⟩
theorem rtake_inner (P base : Nat) (s : RS) (vm vp vt : Value) (c : Int) (hc : 32 ≤ c) (hst : s.st = 2) (w : World) (h : QW w P base s vm vp vt) (ho : ROk s) (hbase : base ≤ w.heap.size) :
    Calls Try.prog 15 #[.pointer (some ⟨P, 0, none⟩), .int .i32 c] w fun e w' => ∃ v, e = .returned v ∧ QTakeOk w w' P base (rtakeS s c) vm vp vt v := by
  have H := Lib.hid h
  have HOK := Lib.hid ho
  have HBS := Lib.hid hbase
  have hPl := lt_of_heap h.hP
  have hneg : ¬ c < 0 := by omega
  have hne27 : (c == 27) = false := by simp; omega
  have hne24 : (c == 24) = false := by simp; omega
  have hne26 : (c == 26) = false := by simp; omega
  have h32 : ¬ c < 32 := by omega
  have hk : s.st = 2 := hst
  have c0 : w.cell? ⟨P, 0, none⟩ = some (.int .i64 2) := by have : w.cell? ⟨P, 0, none⟩ = some (.int .i64 s.st) := h.cell rfl; rw [hk] at this; exact this
  have HE : Hid (rtakeS s c = innerS s c) := Lib.hid (by unfold rtakeS; rw [if_neg (show ¬ c < 0 by omega)]; simp only []; rw [if_neg (by omega), if_neg (by omega)]; rw [if_neg (by omega)]; rw [if_neg (by omega), if_neg (by omega), if_pos hk])
  have HC := Lib.hid (rinner_any P base s vm vp vt c (by omega) w h ho hbase)
  clear h ho hbase hk hc
  go_enter Try.func15, Try.ntmps15
  go_wp2_with fail
  refine HC.out.mono ?_
  rintro e w9 ⟨v9, rfl, ht⟩
  have HF : Hid (QTakeOk w w9 P base (rtakeS s c) vm vp vt v9) := Lib.hid (by rw [HE.out]; exact ht)
  clear ht
  go_wp2_with fail
  go_ret
  exact ⟨_, rfl, HF.out⟩
theorem rtake_seq (P base : Nat) (s : RS) (vm vp vt : Value) (c : Int) (hc : 32 ≤ c) (hst : s.st = 3) (w : World) (h : QW w P base s vm vp vt) (ho : ROk s) (hbase : base ≤ w.heap.size) :
    Calls Try.prog 15 #[.pointer (some ⟨P, 0, none⟩), .int .i32 c] w fun e w' => ∃ v, e = .returned v ∧ QTakeOk w w' P base (rtakeS s c) vm vp vt v := by
  have H := Lib.hid h
  have HOK := Lib.hid ho
  have HBS := Lib.hid hbase
  have hPl := lt_of_heap h.hP
  have hneg : ¬ c < 0 := by omega
  have hne27 : (c == 27) = false := by simp; omega
  have hne24 : (c == 24) = false := by simp; omega
  have hne26 : (c == 26) = false := by simp; omega
  have h32 : ¬ c < 32 := by omega
  have hk : s.st = 3 := hst
  have c0 : w.cell? ⟨P, 0, none⟩ = some (.int .i64 3) := by have : w.cell? ⟨P, 0, none⟩ = some (.int .i64 s.st) := h.cell rfl; rw [hk] at this; exact this
  have HE : Hid (rtakeS s c = seqS s c) := Lib.hid (by unfold rtakeS; rw [if_neg (show ¬ c < 0 by omega)]; simp only []; rw [if_neg (by omega), if_neg (by omega)]; rw [if_neg (by omega)]; rw [if_neg (by omega), if_neg (by omega), if_neg (by omega), if_pos hk])
  have HC := Lib.hid (rseq_any P base s vm vp vt c (by omega) w h ho hbase)
  clear h ho hbase hk hc
  go_enter Try.func15, Try.ntmps15
  go_wp2_with fail
  refine HC.out.mono ?_
  rintro e w9 ⟨v9, rfl, ht⟩
  have HF : Hid (QTakeOk w w9 P base (rtakeS s c) vm vp vt v9) := Lib.hid (by rw [HE.out]; exact ht)
  clear ht
  go_wp2_with fail
  go_ret
  exact ⟨_, rfl, HF.out⟩
theorem rtake_hid_low (P base : Nat) (s : RS) (vm vp vt : Value) (c : Int) (hc : 0 ≤ c ∧ c < 32 ∧ c ≠ 27 ∧ c ≠ 24 ∧ c ≠ 26) (hst : s.st = 5) (w : World) (h : QW w P base s vm vp vt) (ho : ROk s) (hbase : base ≤ w.heap.size) :
    Calls Try.prog 15 #[.pointer (some ⟨P, 0, none⟩), .int .i32 c] w fun e w' => ∃ v, e = .returned v ∧ QTakeOk w w' P base (rtakeS s c) vm vp vt v := by
  have H := Lib.hid h
  have HOK := Lib.hid ho
  have HBS := Lib.hid hbase
  have hPl := lt_of_heap h.hP
  have hneg : ¬ c < 0 := by omega
  have hne27 : (c == 27) = false := by simp; omega
  have hne24 : (c == 24) = false := by simp; omega
  have hne26 : (c == 26) = false := by simp; omega
  have h32 : c < 32 := by omega
  have hk : s.st = 5 := hst
  have c0 : w.cell? ⟨P, 0, none⟩ = some (.int .i64 5) := by have : w.cell? ⟨P, 0, none⟩ = some (.int .i64 s.st) := h.cell rfl; rw [hk] at this; exact this
  have HF : Hid (QTakeOk w w P base (rtakeS s c) vm vp vt (.slice none 0 0)) := Lib.hid (by
    have e : rtakeS s c = (s, []) := by unfold rtakeS; rw [if_neg (show ¬ c < 0 by omega)]; simp only []; rw [if_neg (by omega), if_neg (by omega)]; rw [if_neg (by omega)]; rw [if_neg (by omega), if_neg (by omega), if_neg (by omega), if_neg (by omega), if_neg (by omega)]
    rw [e]; exact QTakeOk.no (QStep.refl h))
  clear h ho hbase hk hc
  go_enter Try.func15, Try.ntmps15
  go_wp2_with fail
  go_ret
  exact ⟨_, rfl, HF.out⟩
theorem rtake_hid_high (P base : Nat) (s : RS) (vm vp vt : Value) (c : Int) (hc : 32 ≤ c) (hst : s.st = 5) (w : World) (h : QW w P base s vm vp vt) (ho : ROk s) (hbase : base ≤ w.heap.size) :
    Calls Try.prog 15 #[.pointer (some ⟨P, 0, none⟩), .int .i32 c] w fun e w' => ∃ v, e = .returned v ∧ QTakeOk w w' P base (rtakeS s c) vm vp vt v := by
  have H := Lib.hid h
  have HOK := Lib.hid ho
  have HBS := Lib.hid hbase
  have hPl := lt_of_heap h.hP
  have hneg : ¬ c < 0 := by omega
  have hne27 : (c == 27) = false := by simp; omega
  have hne24 : (c == 24) = false := by simp; omega
  have hne26 : (c == 26) = false := by simp; omega
  have h32 : ¬ c < 32 := by omega
  have hk : s.st = 5 := hst
  have c0 : w.cell? ⟨P, 0, none⟩ = some (.int .i64 5) := by have : w.cell? ⟨P, 0, none⟩ = some (.int .i64 s.st) := h.cell rfl; rw [hk] at this; exact this
  have HF : Hid (QTakeOk w w P base (rtakeS s c) vm vp vt (.slice none 0 0)) := Lib.hid (by
    have e : rtakeS s c = (s, []) := by unfold rtakeS; rw [if_neg (show ¬ c < 0 by omega)]; simp only []; rw [if_neg (by omega), if_neg (by omega)]; rw [if_neg (by omega)]; rw [if_neg (by omega), if_neg (by omega), if_neg (by omega), if_neg (by omega), if_neg (by omega)]
    rw [e]; exact QTakeOk.no (QStep.refl h))
  clear h ho hbase hk hc
  go_enter Try.func15, Try.ntmps15
  go_wp2_with fail
  go_ret
  exact ⟨_, rfl, HF.out⟩
theorem rtake_osc_low (P base : Nat) (s : RS) (vm vp vt : Value) (c : Int) (hc : 0 ≤ c ∧ c < 32 ∧ c ≠ 27 ∧ c ≠ 24 ∧ c ≠ 26 ∧ c ≠ 7) (hst : s.st = 4) (w : World) (h : QW w P base s vm vp vt) (ho : ROk s) (hbase : base ≤ w.heap.size) :
    Calls Try.prog 15 #[.pointer (some ⟨P, 0, none⟩), .int .i32 c] w fun e w' => ∃ v, e = .returned v ∧ QTakeOk w w' P base (rtakeS s c) vm vp vt v := by
  have H := Lib.hid h
  have HOK := Lib.hid ho
  have HBS := Lib.hid hbase
  have hPl := lt_of_heap h.hP
  have hneg : ¬ c < 0 := by omega
  have hne27 : (c == 27) = false := by simp; omega
  have hne24 : (c == 24) = false := by simp; omega
  have hne26 : (c == 26) = false := by simp; omega
  have hne7 : (c == 7) = false := by simp; omega
  have h32 : c < 32 := by omega
  have h32b : ¬ 32 ≤ c := by omega
  have hk : s.st = 4 := hst
  have c0 : w.cell? ⟨P, 0, none⟩ = some (.int .i64 4) := by have : w.cell? ⟨P, 0, none⟩ = some (.int .i64 s.st) := h.cell rfl; rw [hk] at this; exact this
  have HF : Hid (QTakeOk w w P base (rtakeS s c) vm vp vt (.slice none 0 0)) := Lib.hid (by
    have e : rtakeS s c = (s, []) := by unfold rtakeS; rw [if_neg (show ¬ c < 0 by omega)]; simp only []; rw [if_neg (by omega), if_neg (by omega)]; rw [if_neg (by omega)]; rw [if_neg (by omega), if_neg (by omega), if_neg (by omega), if_neg (by omega), if_pos hk]; rw [if_neg (by omega), if_neg (by omega)]
    rw [e]; exact QTakeOk.no (QStep.refl h))
  clear h ho hbase hk hc
  go_enter Try.func15, Try.ntmps15
  go_wp2_with fail
  go_ret
  exact ⟨_, rfl, HF.out⟩
theorem rtake_osc_del (P base : Nat) (s : RS) (vm vp vt : Value) (c : Int) (hc : c = 127) (hst : s.st = 4) (w : World) (h : QW w P base s vm vp vt) (ho : ROk s) (hbase : base ≤ w.heap.size) :
    Calls Try.prog 15 #[.pointer (some ⟨P, 0, none⟩), .int .i32 c] w fun e w' => ∃ v, e = .returned v ∧ QTakeOk w w' P base (rtakeS s c) vm vp vt v := by
  obtain rfl : c = 127 := hc
  have H := Lib.hid h
  have HOK := Lib.hid ho
  have HBS := Lib.hid hbase
  have hPl := lt_of_heap h.hP
  have hk : s.st = 4 := hst
  have c0 : w.cell? ⟨P, 0, none⟩ = some (.int .i64 4) := by have : w.cell? ⟨P, 0, none⟩ = some (.int .i64 s.st) := h.cell rfl; rw [hk] at this; exact this
  have HF : Hid (QTakeOk w w P base (rtakeS s 127) vm vp vt (.slice none 0 0)) := Lib.hid (by
    have e : rtakeS s 127 = (s, []) := by unfold rtakeS; simp [hk]
    rw [e]; exact QTakeOk.no (QStep.refl h))
  clear h ho hbase hk
  go_enter Try.func15, Try.ntmps15
  go_wp2_with fail
  go_ret
  exact ⟨_, rfl, HF.out⟩
theorem rtake_osc_full (P base : Nat) (s : RS) (vm vp vt : Value) (c : Int) (hc : 32 ≤ c ∧ c ≠ 127 ∧ 256 ≤ s.tx.length) (hst : s.st = 4) (w : World) (h : QW w P base s vm vp vt) (ho : ROk s) (hbase : base ≤ w.heap.size) :
    Calls Try.prog 15 #[.pointer (some ⟨P, 0, none⟩), .int .i32 c] w fun e w' => ∃ v, e = .returned v ∧ QTakeOk w w' P base (rtakeS s c) vm vp vt v := by
  have H := Lib.hid h
  have HOK := Lib.hid ho
  have HBS := Lib.hid hbase
  have hPl := lt_of_heap h.hP
  have hneg : ¬ c < 0 := by omega
  have hne27 : (c == 27) = false := by simp; omega
  have hne24 : (c == 24) = false := by simp; omega
  have hne26 : (c == 26) = false := by simp; omega
  have hne7 : (c == 7) = false := by simp; omega
  have hnn : (c != 127) = true := by simp; omega
  have h32 : ¬ c < 32 := by omega
  have h32b : 32 ≤ c := by omega
  obtain ⟨A, cp, hvt⟩ := h.t.slice
  obtain ⟨n, hn⟩ : ∃ n, s.tx.length = n := ⟨_, rfl⟩
  have HN := Lib.hid hn
  rw [hn] at hvt
  have c5 : w.cell? ⟨P, 5, none⟩ = some (.slice A n cp) := by rw [← hvt]; exact h.cell rfl
  have HVT := Lib.hid hvt
  have hn256 : ¬ (n : Int) < 256 := by omega
  have hk : s.st = 4 := hst
  have c0 : w.cell? ⟨P, 0, none⟩ = some (.int .i64 4) := by have : w.cell? ⟨P, 0, none⟩ = some (.int .i64 s.st) := h.cell rfl; rw [hk] at this; exact this
  have HF : Hid (QTakeOk w w P base (rtakeS s c) vm vp vt (.slice none 0 0)) := Lib.hid (by
    have e : rtakeS s c = (s, []) := by unfold rtakeS; rw [if_neg (show ¬ c < 0 by omega)]; simp only []; rw [if_neg (by omega), if_neg (by omega)]; rw [if_neg (by omega)]; rw [if_neg (by omega), if_neg (by omega), if_neg (by omega), if_neg (by omega), if_pos hk]; rw [if_neg (by omega), if_neg (by omega)]
    rw [e]; exact QTakeOk.no (QStep.refl h))
  clear h ho hbase hk hc hn hvt
  go_enter Try.func15, Try.ntmps15
  go_wp2_with fail
  go_ret
  exact ⟨_, rfl, HF.out⟩
theorem rtake_osc_add (P base : Nat) (s : RS) (vm vp vt : Value) (c : Int) (hc : 32 ≤ c ∧ c ≠ 127 ∧ s.tx.length < 256) (hst : s.st = 4) (w : World) (h : QW w P base s vm vp vt) (ho : ROk s) (hbase : base ≤ w.heap.size) :
    Calls Try.prog 15 #[.pointer (some ⟨P, 0, none⟩), .int .i32 c] w fun e w' => ∃ v, e = .returned v ∧ QTakeOk w w' P base (rtakeS s c) vm vp vt v := by
  have H := Lib.hid h
  have HOK := Lib.hid ho
  have HBS := Lib.hid hbase
  have hPl := lt_of_heap h.hP
  have hneg : ¬ c < 0 := by omega
  have hne27 : (c == 27) = false := by simp; omega
  have hne24 : (c == 24) = false := by simp; omega
  have hne26 : (c == 26) = false := by simp; omega
  have hne7 : (c == 7) = false := by simp; omega
  have hnn : (c != 127) = true := by simp; omega
  have h32 : ¬ c < 32 := by omega
  have h32b : 32 ≤ c := by omega
  obtain ⟨A, cp, hvt⟩ := h.t.slice
  obtain ⟨n, hn⟩ : ∃ n, s.tx.length = n := ⟨_, rfl⟩
  have HN := Lib.hid hn
  rw [hn] at hvt
  have c5 : w.cell? ⟨P, 5, none⟩ = some (.slice A n cp) := by rw [← hvt]; exact h.cell rfl
  have HVT := Lib.hid hvt
  have hn256 : (n : Int) < 256 := by omega
  have hk : s.st = 4 := hst
  have c0 : w.cell? ⟨P, 0, none⟩ = some (.int .i64 4) := by have : w.cell? ⟨P, 0, none⟩ = some (.int .i64 s.st) := h.cell rfl; rw [hk] at this; exact this
  have HE : Hid (rtakeS s c = ({ s with tx := s.tx ++ [c] }, [])) := Lib.hid (by unfold rtakeS; rw [if_neg (show ¬ c < 0 by omega)]; simp only []; rw [if_neg (by omega), if_neg (by omega)]; rw [if_neg (by omega)]; rw [if_neg (by omega), if_neg (by omega), if_neg (by omega), if_neg (by omega), if_pos hk]; rw [if_neg (by omega), if_pos (by omega)])
  obtain ⟨X, hX⟩ : ∃ X, w.heap.size = X := ⟨_, rfl⟩
  have HBX : Hid (Below w.heap.size w (w.alloc (.cells #[.int .i32 c] 21))) := Lib.hid (by (repeat' (first | (with_reducible exact Below.refl _ _) | (with_reducible assumption) | (with_reducible refine Below.alloc ?_ ?_ _) | (with_reducible refine below_setRow ?_ ?_ _) | (with_reducible refine bl_drew ?_) | (with_reducible refine bl_drewN ?_ _) | (with_reducible refine Below.setCell ?_ ?_ _) | (with_reducible refine bl_then ?_ ?_ hb) | (with_reducible refine bl_then ?_ ?_ hb1) | (with_reducible refine bl_then ?_ ?_ hb2) | (with_reducible refine bl_then ?_ ?_ hb3) | (with_reducible refine bl_then ?_ ?_ hb4) | (with_reducible refine bl_then ?_ ?_ hb5) | (with_reducible refine bl_then ?_ ?_ hb6) | (with_reducible refine bl_then ?_ ?_ hb7) | (with_reducible refine bl_then ?_ ?_ hb8) | (with_reducible exact Nat.le_refl _) | omega | (simp only [World.size_alloc, World.size_setCell, World.size_drew, size_setRow]; omega) | (simp; omega) | (simp; done))))
  have HBASE : Hid (base ≤ (w.alloc (.cells #[.int .i32 c] 21)).heap.size) := Lib.hid (by simp; omega)
  have HX : Hid ((w.alloc (.cells #[.int .i32 c] 21)).heap[X]? = some (.cells #[.int .i32 c] 21 (0, 0))) := Lib.hid (by rw [← hX]; exact heap_alloc_last _ _)
  have HOWN : Hid (OwK .i32 21 (w.alloc (.cells #[.int .i32 c] 21)) base (.slice A n cp) s.tx) := Lib.hid (by rw [← hvt]; exact h.t.below HBX.out)
  have HLEN : Hid (s.tx.length ≤ 1000000) := Lib.hid (by omega)
  clear hn hvt h ho hbase hk hc
  go_enter Try.func15, Try.ntmps15
  go_wp2_with (at_builtin; refine wpList_app_r (base := base) rfl _ _ rfl (.slice A n cp) s.tx c X rfl HOWN.out rfl HX.out HLEN.out HBASE.out ?_)
  · intro v' w' k1 k2 k4
    rw [← HVT.out] at k2 k4
    obtain ⟨g1, g2, g3, g4⟩ := QStep.grow_t H.out HBX.out k1 k2 (fun b hb => k4.elim (fun e => .inl (e ▸ hb)) (fun e => .inr (by rw [e] at hb; simp only [Option.some.injEq] at hb; omega)))
    obtain ⟨A3, c3, hv3⟩ := k1.slice
    obtain ⟨m3, hm3⟩ : ∃ m, (s.tx ++ [c]).length = m := ⟨_, rfl⟩
    rw [hm3] at hv3
    subst hv3
    have d4 : w'.cell? ⟨P, 5, none⟩ = some vt := (cell_of_row _ _ _ _ _ _ g1).trans rfl
    have hfz : w'.frozen? ⟨P, 5, none⟩ = false := frozen_of_row w' P 5 _ _ g1
    have HF : Hid (QTakeOk w (w'.setCell ⟨P, 5, none⟩ (.slice A3 m3 c3)) P base (rtakeS s c) vm vp vt (.slice none 0 0)) := Lib.hid (by
      rw [HE.out]
      exact QTakeOk.no ⟨_, _, _, g2, g3, g4⟩)
    clear k1 k2 k4 g1 g2 g3 g4 hm3
    go_wp2_with fail
    go_ret
    exact ⟨_, rfl, HF.out⟩
theorem rtake_osc_end (P base : Nat) (s : RS) (vm vp vt : Value) (c : Int) (hc : c = 7) (hst : s.st = 4) (w : World) (h : QW w P base s vm vp vt) (ho : ROk s) (hbase : base ≤ w.heap.size) :
    Calls Try.prog 15 #[.pointer (some ⟨P, 0, none⟩), .int .i32 c] w fun e w' => ∃ v, e = .returned v ∧ QTakeOk w w' P base (rtakeS s c) vm vp vt v := by
  obtain rfl : c = 7 := hc
  have H := Lib.hid h
  have HOK := Lib.hid ho
  have HBS := Lib.hid hbase
  have hPl := lt_of_heap h.hP
  obtain ⟨A, cp, hvt⟩ := h.t.slice
  obtain ⟨n, hn⟩ : ∃ n, s.tx.length = n := ⟨_, rfl⟩
  have HN := Lib.hid hn
  rw [hn] at hvt
  have c5 : w.cell? ⟨P, 5, none⟩ = some (.slice A n cp) := by rw [← hvt]; exact h.cell rfl
  have HVT := Lib.hid hvt
  have hk : s.st = 4 := hst
  have c0 : w.cell? ⟨P, 0, none⟩ = some (.int .i64 4) := by have : w.cell? ⟨P, 0, none⟩ = some (.int .i64 s.st) := h.cell rfl; rw [hk] at this; exact this
  have HE : Hid (rtakeS s 7 = (freshR 0, [⟨5, 0, 0, 0, [], [], s.tx⟩])) := Lib.hid (by unfold rtakeS; simp [hk])
  have hz : ∀ w, (zeroValue 31).run Try.prog w = .ok (.agg #[.int .u8 0, .int .i32 0, .int .u8 0, .int .u8 0, .slice none 0 0, .slice none 0 0, .slice none 0 0]) w := zero_act
  obtain ⟨X, hX⟩ : ∃ X, w.heap.size = X := ⟨_, rfl⟩
  obtain ⟨W, hW⟩ : ∃ W, w.alloc (.cells #[.int .u8 5, .int .i32 0, .int .u8 0, .int .u8 0, .slice none 0 0, .slice none 0 0, .slice A n cp] 31) = W := ⟨_, rfl⟩
  have HBW : Hid (Below w.heap.size w W) := Lib.hid (by rw [← hW]; exact Below.alloc (Below.refl _ _) (Nat.le_refl _) _)
  have HROW : Hid (W.heap[X]? = some (.cells (arow ⟨5, 0, 0, 0, .slice none 0 0, .slice none 0 0, .slice A n cp, [], [], s.tx⟩) 31 (0, 0))) := Lib.hid (by rw [← hW, ← hX]; exact heap_alloc_last _ _)
  have HPW := Lib.hid (H.out.below HBW.out)
  have HOW : Hid (OwA W base (.slice (some ⟨X, 0, none⟩) 1 1) [⟨5, 0, 0, 0, .slice none 0 0, .slice none 0 0, .slice A n cp, [], [], s.tx⟩]) := Lib.hid (OwA.one (by have := HBS.out; omega) HROW.out ⟨RdO.nil _ _ _ _, RdO.nil _ _ _ _, by have := HPW.out.t.rdo; rw [HVT.out] at this; exact this⟩)
  have HBK : Hid (∀ b, HB (⟨5, 0, 0, 0, .slice none 0 0, .slice none 0 0, .slice A n cp, [], [], s.tx⟩ : HA) b → PB P vm vp vt b ∧ b ≠ P) := Lib.hid (fun b hb => by
    rcases hb with hb | hb | hb
    · cases hb
    · cases hb
    · have hb' : vt.ownBlock = some b := by rw [HVT.out]; exact hb
      exact ⟨.inr (.inr (.inr hb')), fun e => H.out.notP.2.2 (by rw [hb', e])⟩)
  clear h ho hbase hk hn hvt
  go_enter Try.func15, Try.ntmps15
  go_wp2_with fail
  refine (rto_any P base 0 s vm vp vt W HPW.out).mono ?_
  rintro e w9 ⟨rfl, hp, hI⟩
  have HF : Hid (QTakeOk w w9 P base (rtakeS s 7) vm vp vt (.slice (some ⟨X, 0, none⟩) 1 1)) := Lib.hid (by
    rw [HE.out]
    exact QTakeOk.tell2 (a := ⟨5, 0, 0, 0, .slice none 0 0, .slice none 0 0, .slice A n cp, [], [], s.tx⟩) H.out HBW.out HOW.out (fun b hb => by
      have : X = b := by simpa [Value.ownBlock] using hb
      omega) HBK.out hp hI)
  clear hp hI
  go_wp2_with fail
  go_ret
  exact ⟨_, rfl, HF.out⟩
theorem rtake_osc_esc (P base : Nat) (s : RS) (vm vp vt : Value) (c : Int) (hc : c = 27) (hst : s.st = 4) (w : World) (h : QW w P base s vm vp vt) (ho : ROk s) (hbase : base ≤ w.heap.size) :
    Calls Try.prog 15 #[.pointer (some ⟨P, 0, none⟩), .int .i32 c] w fun e w' => ∃ v, e = .returned v ∧ QTakeOk w w' P base (rtakeS s c) vm vp vt v := by
  obtain rfl : c = 27 := hc
  have H := Lib.hid h
  have HOK := Lib.hid ho
  have HBS := Lib.hid hbase
  have hPl := lt_of_heap h.hP
  obtain ⟨A, cp, hvt⟩ := h.t.slice
  obtain ⟨n, hn⟩ : ∃ n, s.tx.length = n := ⟨_, rfl⟩
  have HN := Lib.hid hn
  rw [hn] at hvt
  have c5 : w.cell? ⟨P, 5, none⟩ = some (.slice A n cp) := by rw [← hvt]; exact h.cell rfl
  have HVT := Lib.hid hvt
  have hk : s.st = 4 := hst
  have c0 : w.cell? ⟨P, 0, none⟩ = some (.int .i64 4) := by have : w.cell? ⟨P, 0, none⟩ = some (.int .i64 s.st) := h.cell rfl; rw [hk] at this; exact this
  have HE : Hid (rtakeS s 27 = (freshR 1, [⟨5, 0, 0, 0, [], [], s.tx⟩])) := Lib.hid (by unfold rtakeS; simp [hk])
  have hz : ∀ w, (zeroValue 31).run Try.prog w = .ok (.agg #[.int .u8 0, .int .i32 0, .int .u8 0, .int .u8 0, .slice none 0 0, .slice none 0 0, .slice none 0 0]) w := zero_act
  obtain ⟨X, hX⟩ : ∃ X, w.heap.size = X := ⟨_, rfl⟩
  obtain ⟨W, hW⟩ : ∃ W, w.alloc (.cells #[.int .u8 5, .int .i32 0, .int .u8 0, .int .u8 0, .slice none 0 0, .slice none 0 0, .slice A n cp] 31) = W := ⟨_, rfl⟩
  have HBW : Hid (Below w.heap.size w W) := Lib.hid (by rw [← hW]; exact Below.alloc (Below.refl _ _) (Nat.le_refl _) _)
  have HROW : Hid (W.heap[X]? = some (.cells (arow ⟨5, 0, 0, 0, .slice none 0 0, .slice none 0 0, .slice A n cp, [], [], s.tx⟩) 31 (0, 0))) := Lib.hid (by rw [← hW, ← hX]; exact heap_alloc_last _ _)
  have HPW := Lib.hid (H.out.below HBW.out)
  have HOW : Hid (OwA W base (.slice (some ⟨X, 0, none⟩) 1 1) [⟨5, 0, 0, 0, .slice none 0 0, .slice none 0 0, .slice A n cp, [], [], s.tx⟩]) := Lib.hid (OwA.one (by have := HBS.out; omega) HROW.out ⟨RdO.nil _ _ _ _, RdO.nil _ _ _ _, by have := HPW.out.t.rdo; rw [HVT.out] at this; exact this⟩)
  have HBK : Hid (∀ b, HB (⟨5, 0, 0, 0, .slice none 0 0, .slice none 0 0, .slice A n cp, [], [], s.tx⟩ : HA) b → PB P vm vp vt b ∧ b ≠ P) := Lib.hid (fun b hb => by
    rcases hb with hb | hb | hb
    · cases hb
    · cases hb
    · have hb' : vt.ownBlock = some b := by rw [HVT.out]; exact hb
      exact ⟨.inr (.inr (.inr hb')), fun e => H.out.notP.2.2 (by rw [hb', e])⟩)
  clear h ho hbase hk hn hvt
  have HNIL := Lib.hid (OwA.nil W base)
  have HL : Hid (([] : List HA).length + [(⟨5, 0, 0, 0, .slice none 0 0, .slice none 0 0, .slice A n cp, [], [], s.tx⟩ : HA)].length ≤ 1048577) := Lib.hid (by simp)
  have HBA : Hid (base ≤ W.heap.size) := Lib.hid (by have := HBW.out.size; have := HBS.out; omega)
  go_enter Try.func15, Try.ntmps15
  go_wp2_with (at_builtin; refine wpList_appA (base := base) (base2 := base) rfl _ _ rfl (.slice none 0 0) (.slice (some ⟨X, 0, none⟩) 1 1) [] _ rfl HNIL.out rfl HOW.out HL.out HBA.out (Nat.le_refl _) ?_)
  intro v3 w3 k1 k2 k3
  have HP3 : Hid (QW w3 P base s vm vp vt) := Lib.hid (HPW.out.far (S := fun _ => False) (Inv.ofGrown k2 (fun g hg => by cases hg)) (fun _ _ h => h))
  have HK1 := Lib.hid k1
  have HK2 := Lib.hid k2
  have HK3 := Lib.hid k3
  obtain ⟨A6, c6', hv6⟩ := k1.slice
  clear k1 k2 k3
  subst hv6
  go_wp2_with fail
  refine (rto_any P base 1 s vm vp vt w3 HP3.out).mono ?_
  rintro e w9 ⟨rfl, hp, hI⟩
  have HF : Hid (QTakeOk w w9 P base (rtakeS s 27) vm vp vt (.slice A6 ([] ++ [(⟨5, 0, 0, 0, .slice none 0 0, .slice none 0 0, .slice A n cp, [], [], s.tx⟩ : HA)]).length c6')) := Lib.hid (by
    rw [HE.out]
    exact QTakeOk.tell (X := X) (a := ⟨5, 0, 0, 0, .slice none 0 0, .slice none 0 0, .slice A n cp, [], [], s.tx⟩) H.out HBW.out HK1.out HK2.out HK3.out HBK.out hp hI)
  clear hp hI
  go_wp2_with fail
  go_ret
  exact ⟨_, rfl, HF.out⟩
theorem rtake_any (P base : Nat) (s : RS) (vm vp vt : Value) (c : Int) (w : World) (h : QW w P base s vm vp vt) (ho : ROk s) (hbase : base ≤ w.heap.size) :
    Calls Try.prog 15 #[.pointer (some ⟨P, 0, none⟩), .int .i32 c] w fun e w' => ∃ v, e = .returned v ∧ QTakeOk w w' P base (rtakeS s c) vm vp vt v := by
  have hst := ho.st
  rcases (by omega : c < 0 ∨ c = 27 ∨ c = 24 ∨ c = 26 ∨ (0 ≤ c ∧ c < 32 ∧ c ≠ 27 ∧ c ≠ 24 ∧ c ≠ 26) ∨ 32 ≤ c) with h1 | h1 | h1 | h1 | h1 | h1
  · rcases (by omega : (s.st = 0 ∨ s.st = 4 ∨ s.st = 5) ∨ s.st = 1 ∨ s.st = 2 ∨ s.st = 3) with h2 | h2 | h2 | h2
    · exact rtake_neg P base s vm vp vt c h1 h2 w h ho hbase
    · exact rtake_neg_esc P base s vm vp vt c h1 h2 w h ho hbase
    · exact rtake_neg_mid P base s vm vp vt c h1 h2 w h ho hbase
    · exact rtake_neg_csi P base s vm vp vt c h1 h2 w h ho hbase
  · by_cases h2 : s.st = 4
    · exact rtake_osc_esc P base s vm vp vt c h1 h2 w h ho hbase
    · exact rtake_esc P base s vm vp vt c h1 (by omega) w h ho hbase
  · exact rtake_can P base s vm vp vt c h1 (by omega) w h ho hbase
  · exact rtake_sub P base s vm vp vt c h1 (by omega) w h ho hbase
  · by_cases h2 : s.st = 4
    · by_cases h3 : c = 7
      · exact rtake_osc_end P base s vm vp vt c h3 h2 w h ho hbase
      · exact rtake_osc_low P base s vm vp vt c (by omega) h2 w h ho hbase
    · by_cases h3 : s.st = 5
      · exact rtake_hid_low P base s vm vp vt c h1 h3 w h ho hbase
      · exact rtake_exec P base s vm vp vt c h1 (by omega) w h ho hbase
  · rcases (by omega : s.st = 0 ∨ s.st = 1 ∨ s.st = 2 ∨ s.st = 3 ∨ s.st = 4 ∨ s.st = 5) with h2 | h2 | h2 | h2 | h2 | h2
    · rcases (by omega : c < 127 ∨ 160 ≤ c ∨ (127 ≤ c ∧ c < 160)) with h3 | h3 | h3
      · exact rtake_print P base s vm vp vt c ⟨h1, h3⟩ h2 w h ho hbase
      · exact rtake_print2 P base s vm vp vt c h3 h2 w h ho hbase
      · exact rtake_midc P base s vm vp vt c h3 h2 w h ho hbase
    · exact rtake_escaped P base s vm vp vt c h1 h2 w h ho hbase
    · exact rtake_inner P base s vm vp vt c h1 h2 w h ho hbase
    · exact rtake_seq P base s vm vp vt c h1 h2 w h ho hbase
    · by_cases h3 : c = 127
      · exact rtake_osc_del P base s vm vp vt c h3 h2 w h ho hbase
      · by_cases h4 : s.tx.length < 256
        · exact rtake_osc_add P base s vm vp vt c ⟨h1, h3, h4⟩ h2 w h ho hbase
        · exact rtake_osc_full P base s vm vp vt c ⟨h1, h3, by omega⟩ h2 w h ho hbase
    · exact rtake_hid_high P base s vm vp vt c h1 h2 w h ho hbase
end Go.Proofs.Ytecgipccippddaa
