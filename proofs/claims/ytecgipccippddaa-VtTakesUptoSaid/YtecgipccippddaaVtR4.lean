/- What is proved: what sequence of the reference's parser answers when it is called (digits, semicolons; all); conditions: those typed. -/
import Derived.Test.YtecgipccippddaaVtR3
import Derived.StillTailTactics
set_option linter.unusedSimpArgs false
set_option linter.unusedVariables false
namespace Go.Proofs.Ytecgipccippddaa
open Go.RowKit
set_option maxRecDepth 100000
set_option maxHeartbeats 8000000
theorem rseq_11app (P base : Nat) (s : RS) (vm vp vt : Value) (c : Int) (hc : c = 59) (hmid : 0 < s.mid.length) (hmany : s.many = 0) (w : World) (h : QW w P base s vm vp vt) (ho : ROk s) (hbase : base ≤ w.heap.size) :
    Calls Try.prog 32 #[.pointer (some ⟨P, 0, none⟩), .int .i32 c] w fun e w' => ∃ v, e = .returned v ∧ QTakeOk w w' P base (seqS s c) vm vp vt v := by
  obtain rfl : c = 59 := hc
  obtain ⟨A, cp, hvm⟩ := h.m.slice
  obtain ⟨A0, cp0, hvp⟩ := h.p.slice
  obtain ⟨n, hn⟩ : ∃ n, s.mid.length = n := ⟨_, rfl⟩
  obtain ⟨n0, hn0⟩ : ∃ n, s.ps.length = n := ⟨_, rfl⟩
  obtain ⟨m, hm⟩ : ∃ n, s.many = n := ⟨_, rfl⟩
  have hmb : m ≤ 1125899906842624 := by rw [← hm]; exact ho.big
  have hmn : m = n0 ∨ 17 ≤ m := by rw [← hm, ← hn0]; exact ho.many
  have hn016 : n0 ≤ 16 := by rw [← hn0]; exact ho.ps.1
  rw [hn] at hvm hmid
  rw [hn0] at hvp
  rw [hm] at hmany
  subst hvm hvp
  have H := Lib.hid h
  have HOK := Lib.hid ho
  have HBS := Lib.hid hbase
  have hPl := lt_of_heap h.hP
  have HCS : Hid (seqS s 59 = (seqD (seqZ (seqB s)) 59, [])) := Lib.hid (by unfold seqS; rw [if_pos (.inr rfl)])
  have c2 : w.cell? ⟨P, 2, none⟩ = some (.slice A n cp) := h.cell rfl
  have hmi : (0 : Int) < (n : Int) := by omega
  have c6 : w.cell? ⟨P, 6, none⟩ = some (.bool s.no) := h.cell rfl
  have hf6 : w.frozen? ⟨P, 6, none⟩ = false := frozen_of_row w P 6 _ _ h.hP
  have hh1 : QW (w.setCell ⟨P, 6, none⟩ (.bool true)) P base { s with no := true } (.slice A n cp) (.slice A0 n0 cp0) vt := h.set rfl rfl rfl rfl
  have hsb : seqB s = { s with no := true } := by unfold seqB; rw [hn, decide_eq_true hmid]; simp
  obtain ⟨s1, hs1⟩ : ∃ x : RS, { s with no := true } = x := ⟨_, rfl⟩
  have HS1 : Hid (s1.ps = s.ps ∧ s1.many = m) := Lib.hid (by rw [← hs1]; exact ⟨rfl, hm⟩)
  rw [hs1] at hh1 hsb
  have HSB := Lib.hid hsb
  obtain ⟨W1, hW1⟩ : ∃ W, w.setCell ⟨P, 6, none⟩ (.bool true) = W := ⟨_, rfl⟩
  have HI1 : Hid (Inv w (PB P (.slice A n cp) (.slice A0 n0 cp0) vt) gh0 W1) := Lib.hid (by rw [← hW1]; exact Inv.ofSet (.inl rfl))
  rw [hW1] at hh1
  have H1 := Lib.hid hh1
  have hPl1 := lt_of_heap hh1.hP
  have c41 : W1.cell? ⟨P, 4, none⟩ = some (.int .i64 m) := by have : W1.cell? ⟨P, 4, none⟩ = some (.int .i64 s1.many) := hh1.cell rfl; rw [HS1.out.2] at this; exact this
  have c31 : W1.cell? ⟨P, 3, none⟩ = some (.slice A0 n0 cp0) := hh1.cell rfl
  clear hh1 hsb hs1
  have HBS1 : Hid (base ≤ W1.heap.size) := Lib.hid (by have := HBS.out; have := HI1.out.size; omega)
  obtain rfl : m = 0 := hmany
  obtain rfl : 0 = n0 := by omega
  have hps0 : s1.ps = [] := by rw [HS1.out.1]; exact List.eq_nil_of_length_eq_zero hn0
  obtain ⟨X, hX⟩ : ∃ X, W1.heap.size = X := ⟨_, rfl⟩
  obtain ⟨Wa, hWa⟩ : ∃ W, W1.alloc (.cells #[.int .i64 0] 3) = W := ⟨_, rfl⟩
  obtain ⟨q1, q2, q3, q4⟩ := QW.first H1.out hps0 HBS1.out hX hWa
  have hwa : Below W1.heap.size W1 Wa := by rw [← hWa]; exact Below.alloc (Below.refl _ _) (Nat.le_refl _) _
  have hqa := H1.out.below hwa
  have hPla := lt_of_heap hqa.hP
  have hfa4 : Wa.frozen? ⟨P, 4, none⟩ = false := frozen_of_row Wa P 4 _ _ hqa.hP
  have ca4 : Wa.cell? ⟨P, 4, none⟩ = some (.int .i64 0) := by have : Wa.cell? ⟨P, 4, none⟩ = some (.int .i64 s1.many) := hqa.cell rfl; rw [HS1.out.2] at this; exact this
  obtain ⟨Wb, hWb⟩ : ∃ W, Wa.setCell ⟨P, 4, none⟩ (.int .i64 1) = W := ⟨_, rfl⟩
  rw [hWb] at q1 q2 q3
  have hPlb := lt_of_heap q1.hP
  have hfb3 : Wb.frozen? ⟨P, 3, none⟩ = false := frozen_of_row Wb P 3 _ _ q1.hP
  have cb3 : Wb.cell? ⟨P, 3, none⟩ = some (.slice A0 0 cp0) := q1.cell rfl
  obtain ⟨W2, hW2⟩ : ∃ W, Wb.setCell ⟨P, 3, none⟩ (.slice (some ⟨X, 0, none⟩) 1 1) = W := ⟨_, rfl⟩
  rw [hW2] at q2 q3
  obtain ⟨s2, hs2⟩ : ∃ x : RS, { s1 with many := 1, ps := [0] } = x := ⟨_, rfl⟩
  rw [hs2] at q2
  have HS2 : Hid (s2.ps = [0] ∧ s2.many = 1) := Lib.hid (by rw [← hs2]; exact ⟨rfl, rfl⟩)
  have HSZ : Hid (seqZ (seqB s) = s2) := Lib.hid (by rw [HSB.out, ← hs2]; unfold seqZ; rw [if_pos HS1.out.2])
  have H2 := Lib.hid q2
  have HI2 : Hid (Inv w (PB P (.slice A n cp) (.slice A0 0 cp0) vt) gh0 W2) := Lib.hid (HI1.out.then q3 (fun g hg _ => hg))
  have HNB : Hid (∀ g, PB P (.slice A n cp) (.slice (some ⟨X, 0, none⟩) 1 1) vt g → PB P (.slice A n cp) (.slice A0 0 cp0) vt g ∨ w.heap.size ≤ g) := Lib.hid (fun g hg => (q4 g hg).imp (fun h => h) (fun h => by have := HI1.out.size; omega))
  have hPl2 := lt_of_heap q2.hP
  have c42 : W2.cell? ⟨P, 4, none⟩ = some (.int .i64 1) := by have : W2.cell? ⟨P, 4, none⟩ = some (.int .i64 s2.many) := q2.cell rfl; rw [HS2.out.2] at this; exact this
  have c32 : W2.cell? ⟨P, 3, none⟩ = some (.slice (some ⟨X, 0, none⟩) 1 1) := q2.cell rfl
  have HPSR : Hid (∀ x ∈ s2.ps, 0 ≤ x ∧ x ≤ 9999) := Lib.hid (by rw [HS2.out.1]; simp)
  clear q1 q2 q3 q4 hqa hwa hs2 hps0
  have HM2 : Hid (s2.many = 1 ∧ s2.ps.length = 1) := Lib.hid ⟨HS2.out.2, by rw [HS2.out.1]; rfl⟩
  have HM3 : Hid (s2.many + 1 = 2) := Lib.hid (by rw [HM2.out.1])
  have hf42 : W2.frozen? ⟨P, 4, none⟩ = false := frozen_of_row W2 P 4 _ _ H2.out.hP
  obtain ⟨W3, hW3⟩ : ∃ W, W2.setCell ⟨P, 4, none⟩ (.int .i64 2) = W := ⟨_, rfl⟩
  have hh3 : QW (W2.setCell ⟨P, 4, none⟩ (.int .i64 2)) P base { s2 with many := 2 } (.slice A n cp) (.slice (some ⟨X, 0, none⟩) 1 1) vt := H2.out.set rfl rfl rfl rfl
  rw [hW3] at hh3
  obtain ⟨s3, hs3⟩ : ∃ x : RS, { s2 with many := 2 } = x := ⟨_, rfl⟩
  rw [hs3] at hh3
  have HS3 : Hid ({ s2 with many := 2 } = s3 ∧ s3.ps = s2.ps) := Lib.hid ⟨hs3, by rw [← hs3]⟩
  have HI3 : Hid (Inv w (PB P (.slice A n cp) (.slice A0 0 cp0) vt) gh0 W3) := Lib.hid (by rw [← hW3]; exact HI2.out.then (Inv.ofSet (S := fun g => g = P) rfl) (fun g hg _ => .inl hg))
  have H3 := Lib.hid hh3
  have hPl3 := lt_of_heap hh3.hP
  have c43 : W3.cell? ⟨P, 4, none⟩ = some (.int .i64 2) := by have : W3.cell? ⟨P, 4, none⟩ = some (.int .i64 s3.many) := hh3.cell rfl; rw [← hs3] at this; exact this
  have c33 : W3.cell? ⟨P, 3, none⟩ = some (.slice (some ⟨X, 0, none⟩) 1 1) := hh3.cell rfl
  have HBS3 : Hid (base ≤ W3.heap.size) := Lib.hid (by have := HBS.out; have := HI3.out.size; omega)
  obtain ⟨X3, hX3⟩ : ∃ X, W3.heap.size = X := ⟨_, rfl⟩
  have HBX : Hid (Below W3.heap.size W3 (W3.alloc (.cells #[.int .i64 0] 3))) := Lib.hid (by (repeat' (first | (with_reducible exact Below.refl _ _) | (with_reducible assumption) | (with_reducible refine Below.alloc ?_ ?_ _) | (with_reducible refine below_setRow ?_ ?_ _) | (with_reducible refine bl_drew ?_) | (with_reducible refine bl_drewN ?_ _) | (with_reducible refine Below.setCell ?_ ?_ _) | (with_reducible refine bl_then ?_ ?_ hb) | (with_reducible refine bl_then ?_ ?_ hb1) | (with_reducible refine bl_then ?_ ?_ hb2) | (with_reducible refine bl_then ?_ ?_ hb3) | (with_reducible refine bl_then ?_ ?_ hb4) | (with_reducible refine bl_then ?_ ?_ hb5) | (with_reducible refine bl_then ?_ ?_ hb6) | (with_reducible refine bl_then ?_ ?_ hb7) | (with_reducible refine bl_then ?_ ?_ hb8) | (with_reducible exact Nat.le_refl _) | omega | (simp only [World.size_alloc, World.size_setCell, World.size_drew, size_setRow]; omega) | (simp; omega) | (simp; done))))
  have HBASE : Hid (base ≤ (W3.alloc (.cells #[.int .i64 0] 3)).heap.size) := Lib.hid (by have := HBS3.out; simp; omega)
  have HX3 : Hid ((W3.alloc (.cells #[.int .i64 0] 3)).heap[X3]? = some (.cells #[.int .i64 0] 3 (0, 0))) := Lib.hid (by rw [← hX3]; exact heap_alloc_last _ _)
  have HOWN : Hid (OwK .i64 3 (W3.alloc (.cells #[.int .i64 0] 3)) base (.slice (some ⟨X, 0, none⟩) 1 1) s3.ps) := Lib.hid (H3.out.p.below HBX.out)
  have HLEN : Hid (s3.ps.length ≤ 1000000) := Lib.hid (by have h1 := HM2.out.2; rw [HS3.out.2]; omega)
  clear hh3 hs3 h ho hbase hn hn0 hm
  go_enter Try.func32, Try.ntmps32
  go_wp2_with (at_builtin; refine wpList_app_i (base := base) rfl _ _ rfl (.slice (some ⟨X, 0, none⟩) 1 1) s3.ps 0 X3 rfl HOWN.out rfl HX3.out HLEN.out HBASE.out ?_)
  intro v4 w4 k1 k2 k4
  have G := QStep.grow_p H3.out HBX.out k1 k2 (fun b hb => k4.elim (fun e => .inl (e ▸ hb)) (fun e => .inr (by rw [e] at hb; simp only [Option.some.injEq] at hb; omega)))
  obtain ⟨A4, c4', hv4⟩ := k1.slice
  obtain ⟨n4, hn4⟩ : ∃ m, (s3.ps ++ [0]).length = m := ⟨_, rfl⟩
  rw [hn4] at hv4
  subst hv4
  have d3 : w4.cell? ⟨P, 3, none⟩ = some (.slice (some ⟨X, 0, none⟩) 1 1) := (cell_of_row _ _ _ _ _ _ G.1).trans rfl
  have hfz4 : w4.frozen? ⟨P, 3, none⟩ = false := frozen_of_row w4 P 3 _ _ G.1
  have hPl4 := lt_of_heap G.1
  have HG := Lib.hid G.2
  clear k1 k2 k4 G hn4
  have HF : Hid (QTakeOk w (w4.setCell ⟨P, 3, none⟩ (.slice A4 n4 c4')) P base (seqS s 59) (.slice A n cp) (.slice A0 0 cp0) vt (.slice none 0 0)) := Lib.hid (by
    rw [HCS.out, HSZ.out]
    have e : seqD s2 59 = { s3 with ps := s3.ps ++ [0] } := by unfold seqD; rw [if_pos rfl, if_pos (by rw [HM2.out.1]; omega), HM3.out, ← HS3.out.1]
    rw [e]
    exact QTakeOk.no (QStep.then HI3.out HNB.out ⟨_, _, _, HG.out⟩))
  go_wp2_with fail
  go_ret
  exact ⟨_, rfl, HF.out⟩
theorem rseq_11set (P base : Nat) (s : RS) (vm vp vt : Value) (c : Int) (hc : 48 ≤ c ∧ c ≤ 57) (hmid : 0 < s.mid.length) (hmany : s.many = 0) (w : World) (h : QW w P base s vm vp vt) (ho : ROk s) (hbase : base ≤ w.heap.size) :
    Calls Try.prog 32 #[.pointer (some ⟨P, 0, none⟩), .int .i32 c] w fun e w' => ∃ v, e = .returned v ∧ QTakeOk w w' P base (seqS s c) vm vp vt v := by
  obtain ⟨A, cp, hvm⟩ := h.m.slice
  obtain ⟨A0, cp0, hvp⟩ := h.p.slice
  obtain ⟨n, hn⟩ : ∃ n, s.mid.length = n := ⟨_, rfl⟩
  obtain ⟨n0, hn0⟩ : ∃ n, s.ps.length = n := ⟨_, rfl⟩
  obtain ⟨m, hm⟩ : ∃ n, s.many = n := ⟨_, rfl⟩
  have hmb : m ≤ 1125899906842624 := by rw [← hm]; exact ho.big
  have hmn : m = n0 ∨ 17 ≤ m := by rw [← hm, ← hn0]; exact ho.many
  have hn016 : n0 ≤ 16 := by rw [← hn0]; exact ho.ps.1
  rw [hn] at hvm hmid
  rw [hn0] at hvp
  rw [hm] at hmany
  subst hvm hvp
  have H := Lib.hid h
  have HOK := Lib.hid ho
  have HBS := Lib.hid hbase
  have hPl := lt_of_heap h.hP
  have HCS : Hid (seqS s c = (seqD (seqZ (seqB s)) c, [])) := Lib.hid (by unfold seqS; rw [if_pos (.inl hc)])
  have hy0 : 48 ≤ c := by omega
  have hy1 : c ≤ 57 := by omega
  have hne59 : (c == 59) = false := by simp; omega
  have c2 : w.cell? ⟨P, 2, none⟩ = some (.slice A n cp) := h.cell rfl
  have hmi : (0 : Int) < (n : Int) := by omega
  have c6 : w.cell? ⟨P, 6, none⟩ = some (.bool s.no) := h.cell rfl
  have hf6 : w.frozen? ⟨P, 6, none⟩ = false := frozen_of_row w P 6 _ _ h.hP
  have hh1 : QW (w.setCell ⟨P, 6, none⟩ (.bool true)) P base { s with no := true } (.slice A n cp) (.slice A0 n0 cp0) vt := h.set rfl rfl rfl rfl
  have hsb : seqB s = { s with no := true } := by unfold seqB; rw [hn, decide_eq_true hmid]; simp
  obtain ⟨s1, hs1⟩ : ∃ x : RS, { s with no := true } = x := ⟨_, rfl⟩
  have HS1 : Hid (s1.ps = s.ps ∧ s1.many = m) := Lib.hid (by rw [← hs1]; exact ⟨rfl, hm⟩)
  rw [hs1] at hh1 hsb
  have HSB := Lib.hid hsb
  obtain ⟨W1, hW1⟩ : ∃ W, w.setCell ⟨P, 6, none⟩ (.bool true) = W := ⟨_, rfl⟩
  have HI1 : Hid (Inv w (PB P (.slice A n cp) (.slice A0 n0 cp0) vt) gh0 W1) := Lib.hid (by rw [← hW1]; exact Inv.ofSet (.inl rfl))
  rw [hW1] at hh1
  have H1 := Lib.hid hh1
  have hPl1 := lt_of_heap hh1.hP
  have c41 : W1.cell? ⟨P, 4, none⟩ = some (.int .i64 m) := by have : W1.cell? ⟨P, 4, none⟩ = some (.int .i64 s1.many) := hh1.cell rfl; rw [HS1.out.2] at this; exact this
  have c31 : W1.cell? ⟨P, 3, none⟩ = some (.slice A0 n0 cp0) := hh1.cell rfl
  clear hh1 hsb hs1
  have HBS1 : Hid (base ≤ W1.heap.size) := Lib.hid (by have := HBS.out; have := HI1.out.size; omega)
  obtain rfl : m = 0 := hmany
  obtain rfl : 0 = n0 := by omega
  have hps0 : s1.ps = [] := by rw [HS1.out.1]; exact List.eq_nil_of_length_eq_zero hn0
  obtain ⟨X, hX⟩ : ∃ X, W1.heap.size = X := ⟨_, rfl⟩
  obtain ⟨Wa, hWa⟩ : ∃ W, W1.alloc (.cells #[.int .i64 0] 3) = W := ⟨_, rfl⟩
  obtain ⟨q1, q2, q3, q4⟩ := QW.first H1.out hps0 HBS1.out hX hWa
  have hwa : Below W1.heap.size W1 Wa := by rw [← hWa]; exact Below.alloc (Below.refl _ _) (Nat.le_refl _) _
  have hqa := H1.out.below hwa
  have hPla := lt_of_heap hqa.hP
  have hfa4 : Wa.frozen? ⟨P, 4, none⟩ = false := frozen_of_row Wa P 4 _ _ hqa.hP
  have ca4 : Wa.cell? ⟨P, 4, none⟩ = some (.int .i64 0) := by have : Wa.cell? ⟨P, 4, none⟩ = some (.int .i64 s1.many) := hqa.cell rfl; rw [HS1.out.2] at this; exact this
  obtain ⟨Wb, hWb⟩ : ∃ W, Wa.setCell ⟨P, 4, none⟩ (.int .i64 1) = W := ⟨_, rfl⟩
  rw [hWb] at q1 q2 q3
  have hPlb := lt_of_heap q1.hP
  have hfb3 : Wb.frozen? ⟨P, 3, none⟩ = false := frozen_of_row Wb P 3 _ _ q1.hP
  have cb3 : Wb.cell? ⟨P, 3, none⟩ = some (.slice A0 0 cp0) := q1.cell rfl
  obtain ⟨W2, hW2⟩ : ∃ W, Wb.setCell ⟨P, 3, none⟩ (.slice (some ⟨X, 0, none⟩) 1 1) = W := ⟨_, rfl⟩
  rw [hW2] at q2 q3
  obtain ⟨s2, hs2⟩ : ∃ x : RS, { s1 with many := 1, ps := [0] } = x := ⟨_, rfl⟩
  rw [hs2] at q2
  have HS2 : Hid (s2.ps = [0] ∧ s2.many = 1) := Lib.hid (by rw [← hs2]; exact ⟨rfl, rfl⟩)
  have HSZ : Hid (seqZ (seqB s) = s2) := Lib.hid (by rw [HSB.out, ← hs2]; unfold seqZ; rw [if_pos HS1.out.2])
  have H2 := Lib.hid q2
  have HI2 : Hid (Inv w (PB P (.slice A n cp) (.slice A0 0 cp0) vt) gh0 W2) := Lib.hid (HI1.out.then q3 (fun g hg _ => hg))
  have HNB : Hid (∀ g, PB P (.slice A n cp) (.slice (some ⟨X, 0, none⟩) 1 1) vt g → PB P (.slice A n cp) (.slice A0 0 cp0) vt g ∨ w.heap.size ≤ g) := Lib.hid (fun g hg => (q4 g hg).imp (fun h => h) (fun h => by have := HI1.out.size; omega))
  have hPl2 := lt_of_heap q2.hP
  have c42 : W2.cell? ⟨P, 4, none⟩ = some (.int .i64 1) := by have : W2.cell? ⟨P, 4, none⟩ = some (.int .i64 s2.many) := q2.cell rfl; rw [HS2.out.2] at this; exact this
  have c32 : W2.cell? ⟨P, 3, none⟩ = some (.slice (some ⟨X, 0, none⟩) 1 1) := q2.cell rfl
  have HPSR : Hid (∀ x ∈ s2.ps, 0 ≤ x ∧ x ≤ 9999) := Lib.hid (by rw [HS2.out.1]; simp)
  clear q1 q2 q3 q4 hqa hwa hs2 hps0
  have HM2 : Hid (s2.many = 1 ∧ s2.ps.length = 1) := Lib.hid ⟨HS2.out.2, by rw [HS2.out.1]; rfl⟩
  have hcr : 48 ≤ c ∧ c ≤ 57 := hc
  have hgv : Value.slice (some ⟨X, 0, none⟩) 1 1 = .slice (some ⟨X, 0, none⟩) s2.ps.length 1 := by rw [HM2.out.2]
  have HGV := Lib.hid hgv
  obtain ⟨y, hy⟩ : ∃ y, min 9999 (c - 48) = y := ⟨_, rfl⟩
  have hy1 : (if (9999 : Int) < c - 48 then (9999 : Int) else c - 48) = y := by rw [← hy]; split <;> omega
  have hy2 : (if c - 48 < (9999 : Int) then c - 48 else (9999 : Int)) = y := by rw [← hy]; split <;> omega
  have hw0 : IntKind.i64.wrap 0 = 0 := IntWalk.i64_in _ (by omega)
  have hwc1 : IntKind.i64.wrap c = c := IntWalk.i64_in _ (by omega)
  have hwc2 : IntKind.i64.wrap (c - 48) = c - 48 := IntWalk.i64_in _ (by omega)
  have HY : Hid (min 9999 (10 * s2.ps.getD (s2.many - 1) 0 + c - 48) = y) := Lib.hid (by rw [HS2.out.1, HS2.out.2, ← hy]; simp)
  have dx : W2.cell? ⟨X, 0, none⟩ = some (.int .i64 0) := by
    obtain ⟨g, gc, hgv2, hgc⟩ := H2.out.p.cell (i := 0) (by rw [HM2.out.2]; omega)
    simp only [Value.slice.injEq, Option.some.injEq, Addr.mk.injEq, and_true, true_and] at hgv2
    rw [hgv2.1, hgc, HS2.out.1]
    rfl
  have hfx : W2.frozen? ⟨X, 0, none⟩ = false := by
    obtain ⟨_, cur, hh⟩ := H2.out.p.blk (b := X) rfl
    exact frozen_of_row W2 X 0 _ _ hh
  have HIX : Hid (s2.many - 1 = 0) := Lib.hid (by rw [HS2.out.2])
  have HDR : Hid (Below W2.heap.size W2 W2.drew) := Lib.hid (Below.drew (Below.refl _ _))
  have HF : Hid (QTakeOk w (W2.drew.setCell ⟨X, 0, none⟩ (.int .i64 y)) P base (seqS s c) (.slice A n cp) (.slice A0 0 cp0) vt (.slice none 0 0)) := Lib.hid (by
    rw [HCS.out, HSZ.out]
    have e : seqD s2 c = { s2 with ps := s2.ps.set 0 y } := by
      unfold seqD
      rw [if_neg (by omega), if_pos (by rw [HM2.out.1]; omega), HY.out, HIX.out]
    rw [e]
    exact QTakeOk.no (QStep.then (HI2.out.then (Inv.ofBelow (S := fun _ => False) HDR.out) (fun g hg _ => hg.elim)) HNB.out (QStep.elem (H2.out.below HDR.out) HGV.out y)))
  have hgl2 : X < W2.heap.size := H2.out.p.lt (b := X) rfl
  clear hc hcr h ho hbase hn hn0 hm hy hgv
  go_enter Try.func32, Try.ntmps32
  go_wp2_with (go_still_tail 27, (by kernel_rfl))
  go_ret
  exact ⟨_, rfl, HF.out⟩
theorem rseq_10app (P base : Nat) (s : RS) (vm vp vt : Value) (c : Int) (hc : c = 59) (hmid : 0 < s.mid.length) (hmany : 0 < s.many ∧ s.many < 16) (w : World) (h : QW w P base s vm vp vt) (ho : ROk s) (hbase : base ≤ w.heap.size) :
    Calls Try.prog 32 #[.pointer (some ⟨P, 0, none⟩), .int .i32 c] w fun e w' => ∃ v, e = .returned v ∧ QTakeOk w w' P base (seqS s c) vm vp vt v := by
  obtain rfl : c = 59 := hc
  obtain ⟨A, cp, hvm⟩ := h.m.slice
  obtain ⟨A0, cp0, hvp⟩ := h.p.slice
  obtain ⟨n, hn⟩ : ∃ n, s.mid.length = n := ⟨_, rfl⟩
  obtain ⟨n0, hn0⟩ : ∃ n, s.ps.length = n := ⟨_, rfl⟩
  obtain ⟨m, hm⟩ : ∃ n, s.many = n := ⟨_, rfl⟩
  have hmb : m ≤ 1125899906842624 := by rw [← hm]; exact ho.big
  have hmn : m = n0 ∨ 17 ≤ m := by rw [← hm, ← hn0]; exact ho.many
  have hn016 : n0 ≤ 16 := by rw [← hn0]; exact ho.ps.1
  rw [hn] at hvm hmid
  rw [hn0] at hvp
  rw [hm] at hmany
  subst hvm hvp
  have H := Lib.hid h
  have HOK := Lib.hid ho
  have HBS := Lib.hid hbase
  have hPl := lt_of_heap h.hP
  have HCS : Hid (seqS s 59 = (seqD (seqZ (seqB s)) 59, [])) := Lib.hid (by unfold seqS; rw [if_pos (.inr rfl)])
  have c2 : w.cell? ⟨P, 2, none⟩ = some (.slice A n cp) := h.cell rfl
  have hmi : (0 : Int) < (n : Int) := by omega
  have c6 : w.cell? ⟨P, 6, none⟩ = some (.bool s.no) := h.cell rfl
  have hf6 : w.frozen? ⟨P, 6, none⟩ = false := frozen_of_row w P 6 _ _ h.hP
  have hh1 : QW (w.setCell ⟨P, 6, none⟩ (.bool true)) P base { s with no := true } (.slice A n cp) (.slice A0 n0 cp0) vt := h.set rfl rfl rfl rfl
  have hsb : seqB s = { s with no := true } := by unfold seqB; rw [hn, decide_eq_true hmid]; simp
  obtain ⟨s1, hs1⟩ : ∃ x : RS, { s with no := true } = x := ⟨_, rfl⟩
  have HS1 : Hid (s1.ps = s.ps ∧ s1.many = m) := Lib.hid (by rw [← hs1]; exact ⟨rfl, hm⟩)
  rw [hs1] at hh1 hsb
  have HSB := Lib.hid hsb
  obtain ⟨W1, hW1⟩ : ∃ W, w.setCell ⟨P, 6, none⟩ (.bool true) = W := ⟨_, rfl⟩
  have HI1 : Hid (Inv w (PB P (.slice A n cp) (.slice A0 n0 cp0) vt) gh0 W1) := Lib.hid (by rw [← hW1]; exact Inv.ofSet (.inl rfl))
  rw [hW1] at hh1
  have H1 := Lib.hid hh1
  have hPl1 := lt_of_heap hh1.hP
  have c41 : W1.cell? ⟨P, 4, none⟩ = some (.int .i64 m) := by have : W1.cell? ⟨P, 4, none⟩ = some (.int .i64 s1.many) := hh1.cell rfl; rw [HS1.out.2] at this; exact this
  have c31 : W1.cell? ⟨P, 3, none⟩ = some (.slice A0 n0 cp0) := hh1.cell rfl
  clear hh1 hsb hs1
  have HBS1 : Hid (base ≤ W1.heap.size) := Lib.hid (by have := HBS.out; have := HI1.out.size; omega)
  have hm0 : ((m : Int) == 0) = false := by simp; omega
  have HSZ : Hid (seqZ (seqB s) = s1) := Lib.hid (by rw [HSB.out]; unfold seqZ; rw [if_neg (by rw [HS1.out.2]; omega)])
  have HNB : Hid (∀ g, PB P (.slice A n cp) (.slice A0 n0 cp0) vt g → PB P (.slice A n cp) (.slice A0 n0 cp0) vt g ∨ w.heap.size ≤ g) := Lib.hid (fun g hg => .inl hg)
  have HM2 : Hid (s1.many = m ∧ s1.ps.length = n0) := Lib.hid ⟨HS1.out.2, by rw [HS1.out.1]; exact hn0⟩
  have HPSR : Hid (∀ x ∈ s1.ps, 0 ≤ x ∧ x ≤ 9999) := Lib.hid (by rw [HS1.out.1]; exact HOK.out.ps.2)
  obtain ⟨m3, hm3⟩ : ∃ x, m + 1 = x := ⟨_, rfl⟩
  have hadd : IntKind.i64.wrap ((m : Int) + 1) = (m3 : Int) := (IntWalk.i64_in _ (by omega)).trans (by omega)
  have HM3 : Hid (s1.many + 1 = m3) := Lib.hid (by rw [HM2.out.1]; exact hm3)
  have h16 : (m3 : Int) ≤ 16 := by omega
  have hf42 : W1.frozen? ⟨P, 4, none⟩ = false := frozen_of_row W1 P 4 _ _ H1.out.hP
  obtain ⟨W3, hW3⟩ : ∃ W, W1.setCell ⟨P, 4, none⟩ (.int .i64 (m3 : Int)) = W := ⟨_, rfl⟩
  have hh3 : QW (W1.setCell ⟨P, 4, none⟩ (.int .i64 (m3 : Int))) P base { s1 with many := m3 } (.slice A n cp) (.slice A0 n0 cp0) vt := H1.out.set rfl rfl rfl rfl
  rw [hW3] at hh3
  obtain ⟨s3, hs3⟩ : ∃ x : RS, { s1 with many := m3 } = x := ⟨_, rfl⟩
  rw [hs3] at hh3
  have HS3 : Hid ({ s1 with many := m3 } = s3 ∧ s3.ps = s1.ps) := Lib.hid ⟨hs3, by rw [← hs3]⟩
  have HI3 : Hid (Inv w (PB P (.slice A n cp) (.slice A0 n0 cp0) vt) gh0 W3) := Lib.hid (by rw [← hW3]; exact HI1.out.then (Inv.ofSet (S := fun g => g = P) rfl) (fun g hg _ => .inl hg))
  have H3 := Lib.hid hh3
  have hPl3 := lt_of_heap hh3.hP
  have c43 : W3.cell? ⟨P, 4, none⟩ = some (.int .i64 (m3 : Int)) := by have : W3.cell? ⟨P, 4, none⟩ = some (.int .i64 s3.many) := hh3.cell rfl; rw [← hs3] at this; exact this
  have c33 : W3.cell? ⟨P, 3, none⟩ = some (.slice A0 n0 cp0) := hh3.cell rfl
  have HBS3 : Hid (base ≤ W3.heap.size) := Lib.hid (by have := HBS.out; have := HI3.out.size; omega)
  obtain ⟨X3, hX3⟩ : ∃ X, W3.heap.size = X := ⟨_, rfl⟩
  have HBX : Hid (Below W3.heap.size W3 (W3.alloc (.cells #[.int .i64 0] 3))) := Lib.hid (by (repeat' (first | (with_reducible exact Below.refl _ _) | (with_reducible assumption) | (with_reducible refine Below.alloc ?_ ?_ _) | (with_reducible refine below_setRow ?_ ?_ _) | (with_reducible refine bl_drew ?_) | (with_reducible refine bl_drewN ?_ _) | (with_reducible refine Below.setCell ?_ ?_ _) | (with_reducible refine bl_then ?_ ?_ hb) | (with_reducible refine bl_then ?_ ?_ hb1) | (with_reducible refine bl_then ?_ ?_ hb2) | (with_reducible refine bl_then ?_ ?_ hb3) | (with_reducible refine bl_then ?_ ?_ hb4) | (with_reducible refine bl_then ?_ ?_ hb5) | (with_reducible refine bl_then ?_ ?_ hb6) | (with_reducible refine bl_then ?_ ?_ hb7) | (with_reducible refine bl_then ?_ ?_ hb8) | (with_reducible exact Nat.le_refl _) | omega | (simp only [World.size_alloc, World.size_setCell, World.size_drew, size_setRow]; omega) | (simp; omega) | (simp; done))))
  have HBASE : Hid (base ≤ (W3.alloc (.cells #[.int .i64 0] 3)).heap.size) := Lib.hid (by have := HBS3.out; simp; omega)
  have HX3 : Hid ((W3.alloc (.cells #[.int .i64 0] 3)).heap[X3]? = some (.cells #[.int .i64 0] 3 (0, 0))) := Lib.hid (by rw [← hX3]; exact heap_alloc_last _ _)
  have HOWN : Hid (OwK .i64 3 (W3.alloc (.cells #[.int .i64 0] 3)) base (.slice A0 n0 cp0) s3.ps) := Lib.hid (H3.out.p.below HBX.out)
  have HLEN : Hid (s3.ps.length ≤ 1000000) := Lib.hid (by have h1 := HM2.out.2; rw [HS3.out.2]; omega)
  clear hh3 hs3 h ho hbase hn hn0 hm
  go_enter Try.func32, Try.ntmps32
  go_wp2_with (at_builtin; refine wpList_app_i (base := base) rfl _ _ rfl (.slice A0 n0 cp0) s3.ps 0 X3 rfl HOWN.out rfl HX3.out HLEN.out HBASE.out ?_)
  intro v4 w4 k1 k2 k4
  have G := QStep.grow_p H3.out HBX.out k1 k2 (fun b hb => k4.elim (fun e => .inl (e ▸ hb)) (fun e => .inr (by rw [e] at hb; simp only [Option.some.injEq] at hb; omega)))
  obtain ⟨A4, c4', hv4⟩ := k1.slice
  obtain ⟨n4, hn4⟩ : ∃ m, (s3.ps ++ [0]).length = m := ⟨_, rfl⟩
  rw [hn4] at hv4
  subst hv4
  have d3 : w4.cell? ⟨P, 3, none⟩ = some (.slice A0 n0 cp0) := (cell_of_row _ _ _ _ _ _ G.1).trans rfl
  have hfz4 : w4.frozen? ⟨P, 3, none⟩ = false := frozen_of_row w4 P 3 _ _ G.1
  have hPl4 := lt_of_heap G.1
  have HG := Lib.hid G.2
  clear k1 k2 k4 G hn4
  have HF : Hid (QTakeOk w (w4.setCell ⟨P, 3, none⟩ (.slice A4 n4 c4')) P base (seqS s 59) (.slice A n cp) (.slice A0 n0 cp0) vt (.slice none 0 0)) := Lib.hid (by
    rw [HCS.out, HSZ.out]
    have e : seqD s1 59 = { s3 with ps := s3.ps ++ [0] } := by unfold seqD; rw [if_pos rfl, if_pos (by rw [HM2.out.1]; omega), HM3.out, ← HS3.out.1]
    rw [e]
    exact QTakeOk.no (QStep.then HI3.out HNB.out ⟨_, _, _, HG.out⟩))
  go_wp2_with fail
  go_ret
  exact ⟨_, rfl, HF.out⟩
theorem rseq_10no (P base : Nat) (s : RS) (vm vp vt : Value) (c : Int) (hc : c = 59) (hmid : 0 < s.mid.length) (hmany : 16 ≤ s.many) (w : World) (h : QW w P base s vm vp vt) (ho : ROk s) (hbase : base ≤ w.heap.size) :
    Calls Try.prog 32 #[.pointer (some ⟨P, 0, none⟩), .int .i32 c] w fun e w' => ∃ v, e = .returned v ∧ QTakeOk w w' P base (seqS s c) vm vp vt v := by
  obtain rfl : c = 59 := hc
  obtain ⟨A, cp, hvm⟩ := h.m.slice
  obtain ⟨A0, cp0, hvp⟩ := h.p.slice
  obtain ⟨n, hn⟩ : ∃ n, s.mid.length = n := ⟨_, rfl⟩
  obtain ⟨n0, hn0⟩ : ∃ n, s.ps.length = n := ⟨_, rfl⟩
  obtain ⟨m, hm⟩ : ∃ n, s.many = n := ⟨_, rfl⟩
  have hmb : m ≤ 1125899906842624 := by rw [← hm]; exact ho.big
  have hmn : m = n0 ∨ 17 ≤ m := by rw [← hm, ← hn0]; exact ho.many
  have hn016 : n0 ≤ 16 := by rw [← hn0]; exact ho.ps.1
  rw [hn] at hvm hmid
  rw [hn0] at hvp
  rw [hm] at hmany
  subst hvm hvp
  have H := Lib.hid h
  have HOK := Lib.hid ho
  have HBS := Lib.hid hbase
  have hPl := lt_of_heap h.hP
  have HCS : Hid (seqS s 59 = (seqD (seqZ (seqB s)) 59, [])) := Lib.hid (by unfold seqS; rw [if_pos (.inr rfl)])
  have c2 : w.cell? ⟨P, 2, none⟩ = some (.slice A n cp) := h.cell rfl
  have hmi : (0 : Int) < (n : Int) := by omega
  have c6 : w.cell? ⟨P, 6, none⟩ = some (.bool s.no) := h.cell rfl
  have hf6 : w.frozen? ⟨P, 6, none⟩ = false := frozen_of_row w P 6 _ _ h.hP
  have hh1 : QW (w.setCell ⟨P, 6, none⟩ (.bool true)) P base { s with no := true } (.slice A n cp) (.slice A0 n0 cp0) vt := h.set rfl rfl rfl rfl
  have hsb : seqB s = { s with no := true } := by unfold seqB; rw [hn, decide_eq_true hmid]; simp
  obtain ⟨s1, hs1⟩ : ∃ x : RS, { s with no := true } = x := ⟨_, rfl⟩
  have HS1 : Hid (s1.ps = s.ps ∧ s1.many = m) := Lib.hid (by rw [← hs1]; exact ⟨rfl, hm⟩)
  rw [hs1] at hh1 hsb
  have HSB := Lib.hid hsb
  obtain ⟨W1, hW1⟩ : ∃ W, w.setCell ⟨P, 6, none⟩ (.bool true) = W := ⟨_, rfl⟩
  have HI1 : Hid (Inv w (PB P (.slice A n cp) (.slice A0 n0 cp0) vt) gh0 W1) := Lib.hid (by rw [← hW1]; exact Inv.ofSet (.inl rfl))
  rw [hW1] at hh1
  have H1 := Lib.hid hh1
  have hPl1 := lt_of_heap hh1.hP
  have c41 : W1.cell? ⟨P, 4, none⟩ = some (.int .i64 m) := by have : W1.cell? ⟨P, 4, none⟩ = some (.int .i64 s1.many) := hh1.cell rfl; rw [HS1.out.2] at this; exact this
  have c31 : W1.cell? ⟨P, 3, none⟩ = some (.slice A0 n0 cp0) := hh1.cell rfl
  clear hh1 hsb hs1
  have HBS1 : Hid (base ≤ W1.heap.size) := Lib.hid (by have := HBS.out; have := HI1.out.size; omega)
  have hm0 : ((m : Int) == 0) = false := by simp; omega
  have HSZ : Hid (seqZ (seqB s) = s1) := Lib.hid (by rw [HSB.out]; unfold seqZ; rw [if_neg (by rw [HS1.out.2]; omega)])
  have HNB : Hid (∀ g, PB P (.slice A n cp) (.slice A0 n0 cp0) vt g → PB P (.slice A n cp) (.slice A0 n0 cp0) vt g ∨ w.heap.size ≤ g) := Lib.hid (fun g hg => .inl hg)
  have HM2 : Hid (s1.many = m ∧ s1.ps.length = n0) := Lib.hid ⟨HS1.out.2, by rw [HS1.out.1]; exact hn0⟩
  have HPSR : Hid (∀ x ∈ s1.ps, 0 ≤ x ∧ x ≤ 9999) := Lib.hid (by rw [HS1.out.1]; exact HOK.out.ps.2)
  obtain ⟨m3, hm3⟩ : ∃ x, m + 1 = x := ⟨_, rfl⟩
  have hadd : IntKind.i64.wrap ((m : Int) + 1) = (m3 : Int) := (IntWalk.i64_in _ (by omega)).trans (by omega)
  have HM3 : Hid (s1.many + 1 = m3) := Lib.hid (by rw [HM2.out.1]; exact hm3)
  have h16 : ¬ (m3 : Int) ≤ 16 := by omega
  have hf42 : W1.frozen? ⟨P, 4, none⟩ = false := frozen_of_row W1 P 4 _ _ H1.out.hP
  obtain ⟨W3, hW3⟩ : ∃ W, W1.setCell ⟨P, 4, none⟩ (.int .i64 (m3 : Int)) = W := ⟨_, rfl⟩
  have hh3 : QW (W1.setCell ⟨P, 4, none⟩ (.int .i64 (m3 : Int))) P base { s1 with many := m3 } (.slice A n cp) (.slice A0 n0 cp0) vt := H1.out.set rfl rfl rfl rfl
  rw [hW3] at hh3
  obtain ⟨s3, hs3⟩ : ∃ x : RS, { s1 with many := m3 } = x := ⟨_, rfl⟩
  rw [hs3] at hh3
  have HS3 : Hid ({ s1 with many := m3 } = s3 ∧ s3.ps = s1.ps) := Lib.hid ⟨hs3, by rw [← hs3]⟩
  have HI3 : Hid (Inv w (PB P (.slice A n cp) (.slice A0 n0 cp0) vt) gh0 W3) := Lib.hid (by rw [← hW3]; exact HI1.out.then (Inv.ofSet (S := fun g => g = P) rfl) (fun g hg _ => .inl hg))
  have H3 := Lib.hid hh3
  have hPl3 := lt_of_heap hh3.hP
  have c43 : W3.cell? ⟨P, 4, none⟩ = some (.int .i64 (m3 : Int)) := by have : W3.cell? ⟨P, 4, none⟩ = some (.int .i64 s3.many) := hh3.cell rfl; rw [← hs3] at this; exact this
  have c33 : W3.cell? ⟨P, 3, none⟩ = some (.slice A0 n0 cp0) := hh3.cell rfl
  have HBS3 : Hid (base ≤ W3.heap.size) := Lib.hid (by have := HBS.out; have := HI3.out.size; omega)
  have HF : Hid (QTakeOk w W3 P base (seqS s 59) (.slice A n cp) (.slice A0 n0 cp0) vt (.slice none 0 0)) := Lib.hid (by
    rw [HCS.out, HSZ.out]
    have e : seqD s1 59 = s3 := by unfold seqD; rw [if_pos rfl, if_neg (by rw [HM2.out.1]; omega), HM3.out]; exact HS3.out.1
    rw [e]
    exact QTakeOk.no (QStep.then HI3.out HNB.out (QStep.refl H3.out)))
  clear hh3 hs3 h ho hbase hn hn0 hm
  go_enter Try.func32, Try.ntmps32
  go_wp2_with fail
  go_ret
  exact ⟨_, rfl, HF.out⟩
theorem rseq_10set (P base : Nat) (s : RS) (vm vp vt : Value) (c : Int) (hc : 48 ≤ c ∧ c ≤ 57) (hmid : 0 < s.mid.length) (hmany : 0 < s.many ∧ s.many ≤ 16) (w : World) (h : QW w P base s vm vp vt) (ho : ROk s) (hbase : base ≤ w.heap.size) :
    Calls Try.prog 32 #[.pointer (some ⟨P, 0, none⟩), .int .i32 c] w fun e w' => ∃ v, e = .returned v ∧ QTakeOk w w' P base (seqS s c) vm vp vt v := by
  obtain ⟨A, cp, hvm⟩ := h.m.slice
  obtain ⟨A0, cp0, hvp⟩ := h.p.slice
  obtain ⟨n, hn⟩ : ∃ n, s.mid.length = n := ⟨_, rfl⟩
  obtain ⟨n0, hn0⟩ : ∃ n, s.ps.length = n := ⟨_, rfl⟩
  obtain ⟨m, hm⟩ : ∃ n, s.many = n := ⟨_, rfl⟩
  have hmb : m ≤ 1125899906842624 := by rw [← hm]; exact ho.big
  have hmn : m = n0 ∨ 17 ≤ m := by rw [← hm, ← hn0]; exact ho.many
  have hn016 : n0 ≤ 16 := by rw [← hn0]; exact ho.ps.1
  rw [hn] at hvm hmid
  rw [hn0] at hvp
  rw [hm] at hmany
  subst hvm hvp
  have H := Lib.hid h
  have HOK := Lib.hid ho
  have HBS := Lib.hid hbase
  have hPl := lt_of_heap h.hP
  have HCS : Hid (seqS s c = (seqD (seqZ (seqB s)) c, [])) := Lib.hid (by unfold seqS; rw [if_pos (.inl hc)])
  have hy0 : 48 ≤ c := by omega
  have hy1 : c ≤ 57 := by omega
  have hne59 : (c == 59) = false := by simp; omega
  have c2 : w.cell? ⟨P, 2, none⟩ = some (.slice A n cp) := h.cell rfl
  have hmi : (0 : Int) < (n : Int) := by omega
  have c6 : w.cell? ⟨P, 6, none⟩ = some (.bool s.no) := h.cell rfl
  have hf6 : w.frozen? ⟨P, 6, none⟩ = false := frozen_of_row w P 6 _ _ h.hP
  have hh1 : QW (w.setCell ⟨P, 6, none⟩ (.bool true)) P base { s with no := true } (.slice A n cp) (.slice A0 n0 cp0) vt := h.set rfl rfl rfl rfl
  have hsb : seqB s = { s with no := true } := by unfold seqB; rw [hn, decide_eq_true hmid]; simp
  obtain ⟨s1, hs1⟩ : ∃ x : RS, { s with no := true } = x := ⟨_, rfl⟩
  have HS1 : Hid (s1.ps = s.ps ∧ s1.many = m) := Lib.hid (by rw [← hs1]; exact ⟨rfl, hm⟩)
  rw [hs1] at hh1 hsb
  have HSB := Lib.hid hsb
  obtain ⟨W1, hW1⟩ : ∃ W, w.setCell ⟨P, 6, none⟩ (.bool true) = W := ⟨_, rfl⟩
  have HI1 : Hid (Inv w (PB P (.slice A n cp) (.slice A0 n0 cp0) vt) gh0 W1) := Lib.hid (by rw [← hW1]; exact Inv.ofSet (.inl rfl))
  rw [hW1] at hh1
  have H1 := Lib.hid hh1
  have hPl1 := lt_of_heap hh1.hP
  have c41 : W1.cell? ⟨P, 4, none⟩ = some (.int .i64 m) := by have : W1.cell? ⟨P, 4, none⟩ = some (.int .i64 s1.many) := hh1.cell rfl; rw [HS1.out.2] at this; exact this
  have c31 : W1.cell? ⟨P, 3, none⟩ = some (.slice A0 n0 cp0) := hh1.cell rfl
  clear hh1 hsb hs1
  have HBS1 : Hid (base ≤ W1.heap.size) := Lib.hid (by have := HBS.out; have := HI1.out.size; omega)
  have hm0 : ((m : Int) == 0) = false := by simp; omega
  have HSZ : Hid (seqZ (seqB s) = s1) := Lib.hid (by rw [HSB.out]; unfold seqZ; rw [if_neg (by rw [HS1.out.2]; omega)])
  have HNB : Hid (∀ g, PB P (.slice A n cp) (.slice A0 n0 cp0) vt g → PB P (.slice A n cp) (.slice A0 n0 cp0) vt g ∨ w.heap.size ≤ g) := Lib.hid (fun g hg => .inl hg)
  have HM2 : Hid (s1.many = m ∧ s1.ps.length = n0) := Lib.hid ⟨HS1.out.2, by rw [HS1.out.1]; exact hn0⟩
  have HPSR : Hid (∀ x ∈ s1.ps, 0 ≤ x ∧ x ≤ 9999) := Lib.hid (by rw [HS1.out.1]; exact HOK.out.ps.2)
  have hcr : 48 ≤ c ∧ c ≤ 57 := hc
  have h16 : (m : Int) ≤ 16 := by omega
  obtain ⟨i, hi⟩ : ∃ i, m - 1 = i := ⟨_, rfl⟩
  obtain ⟨g, gc, hgv, hgc⟩ := H1.out.p.cell (i := i) (by rw [HM2.out.2]; omega)
  have hmeq : m = n0 := by omega
  have hgl : s1.ps.length = n0 := HM2.out.2
  rw [hgl] at hgv
  simp only [Value.slice.injEq, true_and] at hgv
  obtain ⟨rfl, rfl⟩ := hgv
  have HGV : Hid (Value.slice (some ⟨g, 0, none⟩) n0 cp0 = .slice (some ⟨g, 0, none⟩) s1.ps.length cp0) := Lib.hid (by rw [HM2.out.2])
  obtain ⟨x, hx⟩ : ∃ x, s1.ps.getD i 0 = x := ⟨_, rfl⟩
  rw [hx] at hgc
  have hx9 : 0 ≤ x ∧ x ≤ 9999 := by rw [← hx]; exact getD_ok HPSR.out
  obtain ⟨y, hy⟩ : ∃ y, min 9999 (10 * x + c - 48) = y := ⟨_, rfl⟩
  have hy1 : (if (9999 : Int) < 10 * x + c - 48 then (9999 : Int) else 10 * x + c - 48) = y := by rw [← hy]; split <;> omega
  have hy2 : (if 10 * x + c - 48 < (9999 : Int) then 10 * x + c - 48 else (9999 : Int)) = y := by rw [← hy]; split <;> omega
  have hwc0 : IntKind.i64.wrap (10 * x) = 10 * x := IntWalk.i64_in _ (by omega)
  have hwc1 : IntKind.i64.wrap c = c := IntWalk.i64_in _ (by omega)
  have hwc2 : IntKind.i64.wrap (10 * x + c) = 10 * x + c := IntWalk.i64_in _ (by omega)
  have hwc3 : IntKind.i64.wrap (10 * x + c - 48) = 10 * x + c - 48 := IntWalk.i64_in _ (by omega)
  have hwi : IntKind.i64.wrap ((m : Int) - 1) = (i : Int) := (IntWalk.i64_in _ (by omega)).trans (by omega)
  have hil : (i : Int) < (n0 : Int) := by omega
  have hi0 : (0 : Int) ≤ (i : Int) := by omega
  have HY : Hid (min 9999 (10 * s1.ps.getD (s1.many - 1) 0 + c - 48) = y) := Lib.hid (by rw [HM2.out.1, hi, hx, hy])
  have hfx : W1.frozen? ⟨g, i, none⟩ = false := by
    obtain ⟨_, cur, hh⟩ := H1.out.p.blk (b := g) rfl
    exact frozen_of_row W1 g i _ _ hh
  have HIX : Hid (s1.many - 1 = i) := Lib.hid (by rw [HM2.out.1]; exact hi)
  have hmn1 : m ≠ 0 := by omega
  have HDR : Hid (Below W1.heap.size W1 W1.drew) := Lib.hid (Below.drew (Below.refl _ _))
  have HF : Hid (QTakeOk w (W1.drew.setCell ⟨g, i, none⟩ (.int .i64 y)) P base (seqS s c) (.slice A n cp) (.slice (some ⟨g, 0, none⟩) n0 cp0) vt (.slice none 0 0)) := Lib.hid (by
    rw [HCS.out, HSZ.out]
    have e : seqD s1 c = { s1 with ps := s1.ps.set i y } := by
      unfold seqD
      rw [if_neg (by omega), if_pos (by rw [HM2.out.1]; omega), HY.out, HIX.out]
    rw [e]
    exact QTakeOk.no (QStep.then (HI1.out.then (Inv.ofBelow (S := fun _ => False) HDR.out) (fun g hg _ => hg.elim)) HNB.out (QStep.elem (H1.out.below HDR.out) HGV.out y)))
  have hgl2 : g < W1.heap.size := H1.out.p.lt (b := g) rfl
  clear hc hcr h ho hbase hn hn0 hm hi hx hy hmeq hgl
  go_enter Try.func32, Try.ntmps32
  go_wp2_with (go_still_tail 27, (by kernel_rfl))
  go_ret
  exact ⟨_, rfl, HF.out⟩
theorem rseq_10keep (P base : Nat) (s : RS) (vm vp vt : Value) (c : Int) (hc : 48 ≤ c ∧ c ≤ 57) (hmid : 0 < s.mid.length) (hmany : 17 ≤ s.many) (w : World) (h : QW w P base s vm vp vt) (ho : ROk s) (hbase : base ≤ w.heap.size) :
    Calls Try.prog 32 #[.pointer (some ⟨P, 0, none⟩), .int .i32 c] w fun e w' => ∃ v, e = .returned v ∧ QTakeOk w w' P base (seqS s c) vm vp vt v := by
  obtain ⟨A, cp, hvm⟩ := h.m.slice
  obtain ⟨A0, cp0, hvp⟩ := h.p.slice
  obtain ⟨n, hn⟩ : ∃ n, s.mid.length = n := ⟨_, rfl⟩
  obtain ⟨n0, hn0⟩ : ∃ n, s.ps.length = n := ⟨_, rfl⟩
  obtain ⟨m, hm⟩ : ∃ n, s.many = n := ⟨_, rfl⟩
  have hmb : m ≤ 1125899906842624 := by rw [← hm]; exact ho.big
  have hmn : m = n0 ∨ 17 ≤ m := by rw [← hm, ← hn0]; exact ho.many
  have hn016 : n0 ≤ 16 := by rw [← hn0]; exact ho.ps.1
  rw [hn] at hvm hmid
  rw [hn0] at hvp
  rw [hm] at hmany
  subst hvm hvp
  have H := Lib.hid h
  have HOK := Lib.hid ho
  have HBS := Lib.hid hbase
  have hPl := lt_of_heap h.hP
  have HCS : Hid (seqS s c = (seqD (seqZ (seqB s)) c, [])) := Lib.hid (by unfold seqS; rw [if_pos (.inl hc)])
  have hy0 : 48 ≤ c := by omega
  have hy1 : c ≤ 57 := by omega
  have hne59 : (c == 59) = false := by simp; omega
  have c2 : w.cell? ⟨P, 2, none⟩ = some (.slice A n cp) := h.cell rfl
  have hmi : (0 : Int) < (n : Int) := by omega
  have c6 : w.cell? ⟨P, 6, none⟩ = some (.bool s.no) := h.cell rfl
  have hf6 : w.frozen? ⟨P, 6, none⟩ = false := frozen_of_row w P 6 _ _ h.hP
  have hh1 : QW (w.setCell ⟨P, 6, none⟩ (.bool true)) P base { s with no := true } (.slice A n cp) (.slice A0 n0 cp0) vt := h.set rfl rfl rfl rfl
  have hsb : seqB s = { s with no := true } := by unfold seqB; rw [hn, decide_eq_true hmid]; simp
  obtain ⟨s1, hs1⟩ : ∃ x : RS, { s with no := true } = x := ⟨_, rfl⟩
  have HS1 : Hid (s1.ps = s.ps ∧ s1.many = m) := Lib.hid (by rw [← hs1]; exact ⟨rfl, hm⟩)
  rw [hs1] at hh1 hsb
  have HSB := Lib.hid hsb
  obtain ⟨W1, hW1⟩ : ∃ W, w.setCell ⟨P, 6, none⟩ (.bool true) = W := ⟨_, rfl⟩
  have HI1 : Hid (Inv w (PB P (.slice A n cp) (.slice A0 n0 cp0) vt) gh0 W1) := Lib.hid (by rw [← hW1]; exact Inv.ofSet (.inl rfl))
  rw [hW1] at hh1
  have H1 := Lib.hid hh1
  have hPl1 := lt_of_heap hh1.hP
  have c41 : W1.cell? ⟨P, 4, none⟩ = some (.int .i64 m) := by have : W1.cell? ⟨P, 4, none⟩ = some (.int .i64 s1.many) := hh1.cell rfl; rw [HS1.out.2] at this; exact this
  have c31 : W1.cell? ⟨P, 3, none⟩ = some (.slice A0 n0 cp0) := hh1.cell rfl
  clear hh1 hsb hs1
  have HBS1 : Hid (base ≤ W1.heap.size) := Lib.hid (by have := HBS.out; have := HI1.out.size; omega)
  have hm0 : ((m : Int) == 0) = false := by simp; omega
  have HSZ : Hid (seqZ (seqB s) = s1) := Lib.hid (by rw [HSB.out]; unfold seqZ; rw [if_neg (by rw [HS1.out.2]; omega)])
  have HNB : Hid (∀ g, PB P (.slice A n cp) (.slice A0 n0 cp0) vt g → PB P (.slice A n cp) (.slice A0 n0 cp0) vt g ∨ w.heap.size ≤ g) := Lib.hid (fun g hg => .inl hg)
  have HM2 : Hid (s1.many = m ∧ s1.ps.length = n0) := Lib.hid ⟨HS1.out.2, by rw [HS1.out.1]; exact hn0⟩
  have HPSR : Hid (∀ x ∈ s1.ps, 0 ≤ x ∧ x ≤ 9999) := Lib.hid (by rw [HS1.out.1]; exact HOK.out.ps.2)
  have hcr : 48 ≤ c ∧ c ≤ 57 := hc
  have h16 : ¬ (m : Int) ≤ 16 := by omega
  have HF : Hid (QTakeOk w W1 P base (seqS s c) (.slice A n cp) (.slice A0 n0 cp0) vt (.slice none 0 0)) := Lib.hid (by
    rw [HCS.out, HSZ.out]
    have e : seqD s1 c = s1 := by unfold seqD; rw [if_neg (by omega), HM2.out.1, if_neg (by omega)]
    rw [e]
    exact QTakeOk.no (QStep.then HI1.out HNB.out (QStep.refl H1.out)))
  clear hc hcr h ho hbase hn hn0 hm
  go_enter Try.func32, Try.ntmps32
  go_wp2_with fail
  go_ret
  exact ⟨_, rfl, HF.out⟩
theorem rseq_01app (P base : Nat) (s : RS) (vm vp vt : Value) (c : Int) (hc : c = 59) (hmid : s.mid.length = 0) (hmany : s.many = 0) (w : World) (h : QW w P base s vm vp vt) (ho : ROk s) (hbase : base ≤ w.heap.size) :
    Calls Try.prog 32 #[.pointer (some ⟨P, 0, none⟩), .int .i32 c] w fun e w' => ∃ v, e = .returned v ∧ QTakeOk w w' P base (seqS s c) vm vp vt v := by
  obtain rfl : c = 59 := hc
  obtain ⟨A, cp, hvm⟩ := h.m.slice
  obtain ⟨A0, cp0, hvp⟩ := h.p.slice
  obtain ⟨n, hn⟩ : ∃ n, s.mid.length = n := ⟨_, rfl⟩
  obtain ⟨n0, hn0⟩ : ∃ n, s.ps.length = n := ⟨_, rfl⟩
  obtain ⟨m, hm⟩ : ∃ n, s.many = n := ⟨_, rfl⟩
  have hmb : m ≤ 1125899906842624 := by rw [← hm]; exact ho.big
  have hmn : m = n0 ∨ 17 ≤ m := by rw [← hm, ← hn0]; exact ho.many
  have hn016 : n0 ≤ 16 := by rw [← hn0]; exact ho.ps.1
  rw [hn] at hvm hmid
  rw [hn0] at hvp
  rw [hm] at hmany
  subst hvm hvp
  have H := Lib.hid h
  have HOK := Lib.hid ho
  have HBS := Lib.hid hbase
  have hPl := lt_of_heap h.hP
  have HCS : Hid (seqS s 59 = (seqD (seqZ (seqB s)) 59, [])) := Lib.hid (by unfold seqS; rw [if_pos (.inr rfl)])
  have c2 : w.cell? ⟨P, 2, none⟩ = some (.slice A n cp) := h.cell rfl
  obtain rfl : n = 0 := hmid
  have HSB : Hid (seqB s = s) := Lib.hid (by unfold seqB; rw [hn]; cases s; simp)
  have HS1 : Hid (s.ps = s.ps ∧ s.many = m) := Lib.hid ⟨rfl, hm⟩
  have H1 := H
  have HI1 : Hid (Inv w (PB P (.slice A 0 cp) (.slice A0 n0 cp0) vt) gh0 w) := Lib.hid (Inv.ofBelow (Below.refl _ _))
  have c41 : w.cell? ⟨P, 4, none⟩ = some (.int .i64 m) := by have : w.cell? ⟨P, 4, none⟩ = some (.int .i64 s.many) := h.cell rfl; rw [hm] at this; exact this
  have c31 : w.cell? ⟨P, 3, none⟩ = some (.slice A0 n0 cp0) := h.cell rfl
  have HBS1 : Hid (base ≤ w.heap.size) := Lib.hid (by have := HBS.out; have := HI1.out.size; omega)
  obtain rfl : m = 0 := hmany
  obtain rfl : 0 = n0 := by omega
  have hps0 : s.ps = [] := by rw [HS1.out.1]; exact List.eq_nil_of_length_eq_zero hn0
  obtain ⟨X, hX⟩ : ∃ X, w.heap.size = X := ⟨_, rfl⟩
  obtain ⟨Wa, hWa⟩ : ∃ W, w.alloc (.cells #[.int .i64 0] 3) = W := ⟨_, rfl⟩
  obtain ⟨q1, q2, q3, q4⟩ := QW.first H1.out hps0 HBS1.out hX hWa
  have hwa : Below w.heap.size w Wa := by rw [← hWa]; exact Below.alloc (Below.refl _ _) (Nat.le_refl _) _
  have hqa := H1.out.below hwa
  have hPla := lt_of_heap hqa.hP
  have hfa4 : Wa.frozen? ⟨P, 4, none⟩ = false := frozen_of_row Wa P 4 _ _ hqa.hP
  have ca4 : Wa.cell? ⟨P, 4, none⟩ = some (.int .i64 0) := by have : Wa.cell? ⟨P, 4, none⟩ = some (.int .i64 s.many) := hqa.cell rfl; rw [HS1.out.2] at this; exact this
  obtain ⟨Wb, hWb⟩ : ∃ W, Wa.setCell ⟨P, 4, none⟩ (.int .i64 1) = W := ⟨_, rfl⟩
  rw [hWb] at q1 q2 q3
  have hPlb := lt_of_heap q1.hP
  have hfb3 : Wb.frozen? ⟨P, 3, none⟩ = false := frozen_of_row Wb P 3 _ _ q1.hP
  have cb3 : Wb.cell? ⟨P, 3, none⟩ = some (.slice A0 0 cp0) := q1.cell rfl
  obtain ⟨W2, hW2⟩ : ∃ W, Wb.setCell ⟨P, 3, none⟩ (.slice (some ⟨X, 0, none⟩) 1 1) = W := ⟨_, rfl⟩
  rw [hW2] at q2 q3
  obtain ⟨s2, hs2⟩ : ∃ x : RS, { s with many := 1, ps := [0] } = x := ⟨_, rfl⟩
  rw [hs2] at q2
  have HS2 : Hid (s2.ps = [0] ∧ s2.many = 1) := Lib.hid (by rw [← hs2]; exact ⟨rfl, rfl⟩)
  have HSZ : Hid (seqZ (seqB s) = s2) := Lib.hid (by rw [HSB.out, ← hs2]; unfold seqZ; rw [if_pos HS1.out.2])
  have H2 := Lib.hid q2
  have HI2 : Hid (Inv w (PB P (.slice A 0 cp) (.slice A0 0 cp0) vt) gh0 W2) := Lib.hid (HI1.out.then q3 (fun g hg _ => hg))
  have HNB : Hid (∀ g, PB P (.slice A 0 cp) (.slice (some ⟨X, 0, none⟩) 1 1) vt g → PB P (.slice A 0 cp) (.slice A0 0 cp0) vt g ∨ w.heap.size ≤ g) := Lib.hid (fun g hg => (q4 g hg).imp (fun h => h) (fun h => by have := HI1.out.size; omega))
  have hPl2 := lt_of_heap q2.hP
  have c42 : W2.cell? ⟨P, 4, none⟩ = some (.int .i64 1) := by have : W2.cell? ⟨P, 4, none⟩ = some (.int .i64 s2.many) := q2.cell rfl; rw [HS2.out.2] at this; exact this
  have c32 : W2.cell? ⟨P, 3, none⟩ = some (.slice (some ⟨X, 0, none⟩) 1 1) := q2.cell rfl
  have HPSR : Hid (∀ x ∈ s2.ps, 0 ≤ x ∧ x ≤ 9999) := Lib.hid (by rw [HS2.out.1]; simp)
  clear q1 q2 q3 q4 hqa hwa hs2 hps0
  have HM2 : Hid (s2.many = 1 ∧ s2.ps.length = 1) := Lib.hid ⟨HS2.out.2, by rw [HS2.out.1]; rfl⟩
  have HM3 : Hid (s2.many + 1 = 2) := Lib.hid (by rw [HM2.out.1])
  have hf42 : W2.frozen? ⟨P, 4, none⟩ = false := frozen_of_row W2 P 4 _ _ H2.out.hP
  obtain ⟨W3, hW3⟩ : ∃ W, W2.setCell ⟨P, 4, none⟩ (.int .i64 2) = W := ⟨_, rfl⟩
  have hh3 : QW (W2.setCell ⟨P, 4, none⟩ (.int .i64 2)) P base { s2 with many := 2 } (.slice A 0 cp) (.slice (some ⟨X, 0, none⟩) 1 1) vt := H2.out.set rfl rfl rfl rfl
  rw [hW3] at hh3
  obtain ⟨s3, hs3⟩ : ∃ x : RS, { s2 with many := 2 } = x := ⟨_, rfl⟩
  rw [hs3] at hh3
  have HS3 : Hid ({ s2 with many := 2 } = s3 ∧ s3.ps = s2.ps) := Lib.hid ⟨hs3, by rw [← hs3]⟩
  have HI3 : Hid (Inv w (PB P (.slice A 0 cp) (.slice A0 0 cp0) vt) gh0 W3) := Lib.hid (by rw [← hW3]; exact HI2.out.then (Inv.ofSet (S := fun g => g = P) rfl) (fun g hg _ => .inl hg))
  have H3 := Lib.hid hh3
  have hPl3 := lt_of_heap hh3.hP
  have c43 : W3.cell? ⟨P, 4, none⟩ = some (.int .i64 2) := by have : W3.cell? ⟨P, 4, none⟩ = some (.int .i64 s3.many) := hh3.cell rfl; rw [← hs3] at this; exact this
  have c33 : W3.cell? ⟨P, 3, none⟩ = some (.slice (some ⟨X, 0, none⟩) 1 1) := hh3.cell rfl
  have HBS3 : Hid (base ≤ W3.heap.size) := Lib.hid (by have := HBS.out; have := HI3.out.size; omega)
  obtain ⟨X3, hX3⟩ : ∃ X, W3.heap.size = X := ⟨_, rfl⟩
  have HBX : Hid (Below W3.heap.size W3 (W3.alloc (.cells #[.int .i64 0] 3))) := Lib.hid (by (repeat' (first | (with_reducible exact Below.refl _ _) | (with_reducible assumption) | (with_reducible refine Below.alloc ?_ ?_ _) | (with_reducible refine below_setRow ?_ ?_ _) | (with_reducible refine bl_drew ?_) | (with_reducible refine bl_drewN ?_ _) | (with_reducible refine Below.setCell ?_ ?_ _) | (with_reducible refine bl_then ?_ ?_ hb) | (with_reducible refine bl_then ?_ ?_ hb1) | (with_reducible refine bl_then ?_ ?_ hb2) | (with_reducible refine bl_then ?_ ?_ hb3) | (with_reducible refine bl_then ?_ ?_ hb4) | (with_reducible refine bl_then ?_ ?_ hb5) | (with_reducible refine bl_then ?_ ?_ hb6) | (with_reducible refine bl_then ?_ ?_ hb7) | (with_reducible refine bl_then ?_ ?_ hb8) | (with_reducible exact Nat.le_refl _) | omega | (simp only [World.size_alloc, World.size_setCell, World.size_drew, size_setRow]; omega) | (simp; omega) | (simp; done))))
  have HBASE : Hid (base ≤ (W3.alloc (.cells #[.int .i64 0] 3)).heap.size) := Lib.hid (by have := HBS3.out; simp; omega)
  have HX3 : Hid ((W3.alloc (.cells #[.int .i64 0] 3)).heap[X3]? = some (.cells #[.int .i64 0] 3 (0, 0))) := Lib.hid (by rw [← hX3]; exact heap_alloc_last _ _)
  have HOWN : Hid (OwK .i64 3 (W3.alloc (.cells #[.int .i64 0] 3)) base (.slice (some ⟨X, 0, none⟩) 1 1) s3.ps) := Lib.hid (H3.out.p.below HBX.out)
  have HLEN : Hid (s3.ps.length ≤ 1000000) := Lib.hid (by have h1 := HM2.out.2; rw [HS3.out.2]; omega)
  clear hh3 hs3 h ho hbase hn hn0 hm
  go_enter Try.func32, Try.ntmps32
  go_wp2_with (at_builtin; refine wpList_app_i (base := base) rfl _ _ rfl (.slice (some ⟨X, 0, none⟩) 1 1) s3.ps 0 X3 rfl HOWN.out rfl HX3.out HLEN.out HBASE.out ?_)
  intro v4 w4 k1 k2 k4
  have G := QStep.grow_p H3.out HBX.out k1 k2 (fun b hb => k4.elim (fun e => .inl (e ▸ hb)) (fun e => .inr (by rw [e] at hb; simp only [Option.some.injEq] at hb; omega)))
  obtain ⟨A4, c4', hv4⟩ := k1.slice
  obtain ⟨n4, hn4⟩ : ∃ m, (s3.ps ++ [0]).length = m := ⟨_, rfl⟩
  rw [hn4] at hv4
  subst hv4
  have d3 : w4.cell? ⟨P, 3, none⟩ = some (.slice (some ⟨X, 0, none⟩) 1 1) := (cell_of_row _ _ _ _ _ _ G.1).trans rfl
  have hfz4 : w4.frozen? ⟨P, 3, none⟩ = false := frozen_of_row w4 P 3 _ _ G.1
  have hPl4 := lt_of_heap G.1
  have HG := Lib.hid G.2
  clear k1 k2 k4 G hn4
  have HF : Hid (QTakeOk w (w4.setCell ⟨P, 3, none⟩ (.slice A4 n4 c4')) P base (seqS s 59) (.slice A 0 cp) (.slice A0 0 cp0) vt (.slice none 0 0)) := Lib.hid (by
    rw [HCS.out, HSZ.out]
    have e : seqD s2 59 = { s3 with ps := s3.ps ++ [0] } := by unfold seqD; rw [if_pos rfl, if_pos (by rw [HM2.out.1]; omega), HM3.out, ← HS3.out.1]
    rw [e]
    exact QTakeOk.no (QStep.then HI3.out HNB.out ⟨_, _, _, HG.out⟩))
  go_wp2_with fail
  go_ret
  exact ⟨_, rfl, HF.out⟩
theorem rseq_01set (P base : Nat) (s : RS) (vm vp vt : Value) (c : Int) (hc : 48 ≤ c ∧ c ≤ 57) (hmid : s.mid.length = 0) (hmany : s.many = 0) (w : World) (h : QW w P base s vm vp vt) (ho : ROk s) (hbase : base ≤ w.heap.size) :
    Calls Try.prog 32 #[.pointer (some ⟨P, 0, none⟩), .int .i32 c] w fun e w' => ∃ v, e = .returned v ∧ QTakeOk w w' P base (seqS s c) vm vp vt v := by
  obtain ⟨A, cp, hvm⟩ := h.m.slice
  obtain ⟨A0, cp0, hvp⟩ := h.p.slice
  obtain ⟨n, hn⟩ : ∃ n, s.mid.length = n := ⟨_, rfl⟩
  obtain ⟨n0, hn0⟩ : ∃ n, s.ps.length = n := ⟨_, rfl⟩
  obtain ⟨m, hm⟩ : ∃ n, s.many = n := ⟨_, rfl⟩
  have hmb : m ≤ 1125899906842624 := by rw [← hm]; exact ho.big
  have hmn : m = n0 ∨ 17 ≤ m := by rw [← hm, ← hn0]; exact ho.many
  have hn016 : n0 ≤ 16 := by rw [← hn0]; exact ho.ps.1
  rw [hn] at hvm hmid
  rw [hn0] at hvp
  rw [hm] at hmany
  subst hvm hvp
  have H := Lib.hid h
  have HOK := Lib.hid ho
  have HBS := Lib.hid hbase
  have hPl := lt_of_heap h.hP
  have HCS : Hid (seqS s c = (seqD (seqZ (seqB s)) c, [])) := Lib.hid (by unfold seqS; rw [if_pos (.inl hc)])
  have hy0 : 48 ≤ c := by omega
  have hy1 : c ≤ 57 := by omega
  have hne59 : (c == 59) = false := by simp; omega
  have c2 : w.cell? ⟨P, 2, none⟩ = some (.slice A n cp) := h.cell rfl
  obtain rfl : n = 0 := hmid
  have HSB : Hid (seqB s = s) := Lib.hid (by unfold seqB; rw [hn]; cases s; simp)
  have HS1 : Hid (s.ps = s.ps ∧ s.many = m) := Lib.hid ⟨rfl, hm⟩
  have H1 := H
  have HI1 : Hid (Inv w (PB P (.slice A 0 cp) (.slice A0 n0 cp0) vt) gh0 w) := Lib.hid (Inv.ofBelow (Below.refl _ _))
  have c41 : w.cell? ⟨P, 4, none⟩ = some (.int .i64 m) := by have : w.cell? ⟨P, 4, none⟩ = some (.int .i64 s.many) := h.cell rfl; rw [hm] at this; exact this
  have c31 : w.cell? ⟨P, 3, none⟩ = some (.slice A0 n0 cp0) := h.cell rfl
  have HBS1 : Hid (base ≤ w.heap.size) := Lib.hid (by have := HBS.out; have := HI1.out.size; omega)
  obtain rfl : m = 0 := hmany
  obtain rfl : 0 = n0 := by omega
  have hps0 : s.ps = [] := by rw [HS1.out.1]; exact List.eq_nil_of_length_eq_zero hn0
  obtain ⟨X, hX⟩ : ∃ X, w.heap.size = X := ⟨_, rfl⟩
  obtain ⟨Wa, hWa⟩ : ∃ W, w.alloc (.cells #[.int .i64 0] 3) = W := ⟨_, rfl⟩
  obtain ⟨q1, q2, q3, q4⟩ := QW.first H1.out hps0 HBS1.out hX hWa
  have hwa : Below w.heap.size w Wa := by rw [← hWa]; exact Below.alloc (Below.refl _ _) (Nat.le_refl _) _
  have hqa := H1.out.below hwa
  have hPla := lt_of_heap hqa.hP
  have hfa4 : Wa.frozen? ⟨P, 4, none⟩ = false := frozen_of_row Wa P 4 _ _ hqa.hP
  have ca4 : Wa.cell? ⟨P, 4, none⟩ = some (.int .i64 0) := by have : Wa.cell? ⟨P, 4, none⟩ = some (.int .i64 s.many) := hqa.cell rfl; rw [HS1.out.2] at this; exact this
  obtain ⟨Wb, hWb⟩ : ∃ W, Wa.setCell ⟨P, 4, none⟩ (.int .i64 1) = W := ⟨_, rfl⟩
  rw [hWb] at q1 q2 q3
  have hPlb := lt_of_heap q1.hP
  have hfb3 : Wb.frozen? ⟨P, 3, none⟩ = false := frozen_of_row Wb P 3 _ _ q1.hP
  have cb3 : Wb.cell? ⟨P, 3, none⟩ = some (.slice A0 0 cp0) := q1.cell rfl
  obtain ⟨W2, hW2⟩ : ∃ W, Wb.setCell ⟨P, 3, none⟩ (.slice (some ⟨X, 0, none⟩) 1 1) = W := ⟨_, rfl⟩
  rw [hW2] at q2 q3
  obtain ⟨s2, hs2⟩ : ∃ x : RS, { s with many := 1, ps := [0] } = x := ⟨_, rfl⟩
  rw [hs2] at q2
  have HS2 : Hid (s2.ps = [0] ∧ s2.many = 1) := Lib.hid (by rw [← hs2]; exact ⟨rfl, rfl⟩)
  have HSZ : Hid (seqZ (seqB s) = s2) := Lib.hid (by rw [HSB.out, ← hs2]; unfold seqZ; rw [if_pos HS1.out.2])
  have H2 := Lib.hid q2
  have HI2 : Hid (Inv w (PB P (.slice A 0 cp) (.slice A0 0 cp0) vt) gh0 W2) := Lib.hid (HI1.out.then q3 (fun g hg _ => hg))
  have HNB : Hid (∀ g, PB P (.slice A 0 cp) (.slice (some ⟨X, 0, none⟩) 1 1) vt g → PB P (.slice A 0 cp) (.slice A0 0 cp0) vt g ∨ w.heap.size ≤ g) := Lib.hid (fun g hg => (q4 g hg).imp (fun h => h) (fun h => by have := HI1.out.size; omega))
  have hPl2 := lt_of_heap q2.hP
  have c42 : W2.cell? ⟨P, 4, none⟩ = some (.int .i64 1) := by have : W2.cell? ⟨P, 4, none⟩ = some (.int .i64 s2.many) := q2.cell rfl; rw [HS2.out.2] at this; exact this
  have c32 : W2.cell? ⟨P, 3, none⟩ = some (.slice (some ⟨X, 0, none⟩) 1 1) := q2.cell rfl
  have HPSR : Hid (∀ x ∈ s2.ps, 0 ≤ x ∧ x ≤ 9999) := Lib.hid (by rw [HS2.out.1]; simp)
  clear q1 q2 q3 q4 hqa hwa hs2 hps0
  have HM2 : Hid (s2.many = 1 ∧ s2.ps.length = 1) := Lib.hid ⟨HS2.out.2, by rw [HS2.out.1]; rfl⟩
  have hcr : 48 ≤ c ∧ c ≤ 57 := hc
  have hgv : Value.slice (some ⟨X, 0, none⟩) 1 1 = .slice (some ⟨X, 0, none⟩) s2.ps.length 1 := by rw [HM2.out.2]
  have HGV := Lib.hid hgv
  obtain ⟨y, hy⟩ : ∃ y, min 9999 (c - 48) = y := ⟨_, rfl⟩
  have hy1 : (if (9999 : Int) < c - 48 then (9999 : Int) else c - 48) = y := by rw [← hy]; split <;> omega
  have hy2 : (if c - 48 < (9999 : Int) then c - 48 else (9999 : Int)) = y := by rw [← hy]; split <;> omega
  have hw0 : IntKind.i64.wrap 0 = 0 := IntWalk.i64_in _ (by omega)
  have hwc1 : IntKind.i64.wrap c = c := IntWalk.i64_in _ (by omega)
  have hwc2 : IntKind.i64.wrap (c - 48) = c - 48 := IntWalk.i64_in _ (by omega)
  have HY : Hid (min 9999 (10 * s2.ps.getD (s2.many - 1) 0 + c - 48) = y) := Lib.hid (by rw [HS2.out.1, HS2.out.2, ← hy]; simp)
  have dx : W2.cell? ⟨X, 0, none⟩ = some (.int .i64 0) := by
    obtain ⟨g, gc, hgv2, hgc⟩ := H2.out.p.cell (i := 0) (by rw [HM2.out.2]; omega)
    simp only [Value.slice.injEq, Option.some.injEq, Addr.mk.injEq, and_true, true_and] at hgv2
    rw [hgv2.1, hgc, HS2.out.1]
    rfl
  have hfx : W2.frozen? ⟨X, 0, none⟩ = false := by
    obtain ⟨_, cur, hh⟩ := H2.out.p.blk (b := X) rfl
    exact frozen_of_row W2 X 0 _ _ hh
  have HIX : Hid (s2.many - 1 = 0) := Lib.hid (by rw [HS2.out.2])
  have HDR : Hid (Below W2.heap.size W2 W2.drew) := Lib.hid (Below.drew (Below.refl _ _))
  have HF : Hid (QTakeOk w (W2.drew.setCell ⟨X, 0, none⟩ (.int .i64 y)) P base (seqS s c) (.slice A 0 cp) (.slice A0 0 cp0) vt (.slice none 0 0)) := Lib.hid (by
    rw [HCS.out, HSZ.out]
    have e : seqD s2 c = { s2 with ps := s2.ps.set 0 y } := by
      unfold seqD
      rw [if_neg (by omega), if_pos (by rw [HM2.out.1]; omega), HY.out, HIX.out]
    rw [e]
    exact QTakeOk.no (QStep.then (HI2.out.then (Inv.ofBelow (S := fun _ => False) HDR.out) (fun g hg _ => hg.elim)) HNB.out (QStep.elem (H2.out.below HDR.out) HGV.out y)))
  have hgl2 : X < W2.heap.size := H2.out.p.lt (b := X) rfl
  clear hc hcr h ho hbase hn hn0 hm hy hgv
  go_enter Try.func32, Try.ntmps32
  go_wp2_with (go_still_tail 27, (by kernel_rfl))
  go_ret
  exact ⟨_, rfl, HF.out⟩
theorem rseq_00app (P base : Nat) (s : RS) (vm vp vt : Value) (c : Int) (hc : c = 59) (hmid : s.mid.length = 0) (hmany : 0 < s.many ∧ s.many < 16) (w : World) (h : QW w P base s vm vp vt) (ho : ROk s) (hbase : base ≤ w.heap.size) :
    Calls Try.prog 32 #[.pointer (some ⟨P, 0, none⟩), .int .i32 c] w fun e w' => ∃ v, e = .returned v ∧ QTakeOk w w' P base (seqS s c) vm vp vt v := by
  obtain rfl : c = 59 := hc
  obtain ⟨A, cp, hvm⟩ := h.m.slice
  obtain ⟨A0, cp0, hvp⟩ := h.p.slice
  obtain ⟨n, hn⟩ : ∃ n, s.mid.length = n := ⟨_, rfl⟩
  obtain ⟨n0, hn0⟩ : ∃ n, s.ps.length = n := ⟨_, rfl⟩
  obtain ⟨m, hm⟩ : ∃ n, s.many = n := ⟨_, rfl⟩
  have hmb : m ≤ 1125899906842624 := by rw [← hm]; exact ho.big
  have hmn : m = n0 ∨ 17 ≤ m := by rw [← hm, ← hn0]; exact ho.many
  have hn016 : n0 ≤ 16 := by rw [← hn0]; exact ho.ps.1
  rw [hn] at hvm hmid
  rw [hn0] at hvp
  rw [hm] at hmany
  subst hvm hvp
  have H := Lib.hid h
  have HOK := Lib.hid ho
  have HBS := Lib.hid hbase
  have hPl := lt_of_heap h.hP
  have HCS : Hid (seqS s 59 = (seqD (seqZ (seqB s)) 59, [])) := Lib.hid (by unfold seqS; rw [if_pos (.inr rfl)])
  have c2 : w.cell? ⟨P, 2, none⟩ = some (.slice A n cp) := h.cell rfl
  obtain rfl : n = 0 := hmid
  have HSB : Hid (seqB s = s) := Lib.hid (by unfold seqB; rw [hn]; cases s; simp)
  have HS1 : Hid (s.ps = s.ps ∧ s.many = m) := Lib.hid ⟨rfl, hm⟩
  have H1 := H
  have HI1 : Hid (Inv w (PB P (.slice A 0 cp) (.slice A0 n0 cp0) vt) gh0 w) := Lib.hid (Inv.ofBelow (Below.refl _ _))
  have c41 : w.cell? ⟨P, 4, none⟩ = some (.int .i64 m) := by have : w.cell? ⟨P, 4, none⟩ = some (.int .i64 s.many) := h.cell rfl; rw [hm] at this; exact this
  have c31 : w.cell? ⟨P, 3, none⟩ = some (.slice A0 n0 cp0) := h.cell rfl
  have HBS1 : Hid (base ≤ w.heap.size) := Lib.hid (by have := HBS.out; have := HI1.out.size; omega)
  have hm0 : ((m : Int) == 0) = false := by simp; omega
  have HSZ : Hid (seqZ (seqB s) = s) := Lib.hid (by rw [HSB.out]; unfold seqZ; rw [if_neg (by rw [HS1.out.2]; omega)])
  have HNB : Hid (∀ g, PB P (.slice A 0 cp) (.slice A0 n0 cp0) vt g → PB P (.slice A 0 cp) (.slice A0 n0 cp0) vt g ∨ w.heap.size ≤ g) := Lib.hid (fun g hg => .inl hg)
  have HM2 : Hid (s.many = m ∧ s.ps.length = n0) := Lib.hid ⟨HS1.out.2, by rw [HS1.out.1]; exact hn0⟩
  have HPSR : Hid (∀ x ∈ s.ps, 0 ≤ x ∧ x ≤ 9999) := Lib.hid (by rw [HS1.out.1]; exact HOK.out.ps.2)
  obtain ⟨m3, hm3⟩ : ∃ x, m + 1 = x := ⟨_, rfl⟩
  have hadd : IntKind.i64.wrap ((m : Int) + 1) = (m3 : Int) := (IntWalk.i64_in _ (by omega)).trans (by omega)
  have HM3 : Hid (s.many + 1 = m3) := Lib.hid (by rw [HM2.out.1]; exact hm3)
  have h16 : (m3 : Int) ≤ 16 := by omega
  have hf42 : w.frozen? ⟨P, 4, none⟩ = false := frozen_of_row w P 4 _ _ H1.out.hP
  obtain ⟨W3, hW3⟩ : ∃ W, w.setCell ⟨P, 4, none⟩ (.int .i64 (m3 : Int)) = W := ⟨_, rfl⟩
  have hh3 : QW (w.setCell ⟨P, 4, none⟩ (.int .i64 (m3 : Int))) P base { s with many := m3 } (.slice A 0 cp) (.slice A0 n0 cp0) vt := H1.out.set rfl rfl rfl rfl
  rw [hW3] at hh3
  obtain ⟨s3, hs3⟩ : ∃ x : RS, { s with many := m3 } = x := ⟨_, rfl⟩
  rw [hs3] at hh3
  have HS3 : Hid ({ s with many := m3 } = s3 ∧ s3.ps = s.ps) := Lib.hid ⟨hs3, by rw [← hs3]⟩
  have HI3 : Hid (Inv w (PB P (.slice A 0 cp) (.slice A0 n0 cp0) vt) gh0 W3) := Lib.hid (by rw [← hW3]; exact HI1.out.then (Inv.ofSet (S := fun g => g = P) rfl) (fun g hg _ => .inl hg))
  have H3 := Lib.hid hh3
  have hPl3 := lt_of_heap hh3.hP
  have c43 : W3.cell? ⟨P, 4, none⟩ = some (.int .i64 (m3 : Int)) := by have : W3.cell? ⟨P, 4, none⟩ = some (.int .i64 s3.many) := hh3.cell rfl; rw [← hs3] at this; exact this
  have c33 : W3.cell? ⟨P, 3, none⟩ = some (.slice A0 n0 cp0) := hh3.cell rfl
  have HBS3 : Hid (base ≤ W3.heap.size) := Lib.hid (by have := HBS.out; have := HI3.out.size; omega)
  obtain ⟨X3, hX3⟩ : ∃ X, W3.heap.size = X := ⟨_, rfl⟩
  have HBX : Hid (Below W3.heap.size W3 (W3.alloc (.cells #[.int .i64 0] 3))) := Lib.hid (by (repeat' (first | (with_reducible exact Below.refl _ _) | (with_reducible assumption) | (with_reducible refine Below.alloc ?_ ?_ _) | (with_reducible refine below_setRow ?_ ?_ _) | (with_reducible refine bl_drew ?_) | (with_reducible refine bl_drewN ?_ _) | (with_reducible refine Below.setCell ?_ ?_ _) | (with_reducible refine bl_then ?_ ?_ hb) | (with_reducible refine bl_then ?_ ?_ hb1) | (with_reducible refine bl_then ?_ ?_ hb2) | (with_reducible refine bl_then ?_ ?_ hb3) | (with_reducible refine bl_then ?_ ?_ hb4) | (with_reducible refine bl_then ?_ ?_ hb5) | (with_reducible refine bl_then ?_ ?_ hb6) | (with_reducible refine bl_then ?_ ?_ hb7) | (with_reducible refine bl_then ?_ ?_ hb8) | (with_reducible exact Nat.le_refl _) | omega | (simp only [World.size_alloc, World.size_setCell, World.size_drew, size_setRow]; omega) | (simp; omega) | (simp; done))))
  have HBASE : Hid (base ≤ (W3.alloc (.cells #[.int .i64 0] 3)).heap.size) := Lib.hid (by have := HBS3.out; simp; omega)
  have HX3 : Hid ((W3.alloc (.cells #[.int .i64 0] 3)).heap[X3]? = some (.cells #[.int .i64 0] 3 (0, 0))) := Lib.hid (by rw [← hX3]; exact heap_alloc_last _ _)
  have HOWN : Hid (OwK .i64 3 (W3.alloc (.cells #[.int .i64 0] 3)) base (.slice A0 n0 cp0) s3.ps) := Lib.hid (H3.out.p.below HBX.out)
  have HLEN : Hid (s3.ps.length ≤ 1000000) := Lib.hid (by have h1 := HM2.out.2; rw [HS3.out.2]; omega)
  clear hh3 hs3 h ho hbase hn hn0 hm
  go_enter Try.func32, Try.ntmps32
  go_wp2_with (at_builtin; refine wpList_app_i (base := base) rfl _ _ rfl (.slice A0 n0 cp0) s3.ps 0 X3 rfl HOWN.out rfl HX3.out HLEN.out HBASE.out ?_)
  intro v4 w4 k1 k2 k4
  have G := QStep.grow_p H3.out HBX.out k1 k2 (fun b hb => k4.elim (fun e => .inl (e ▸ hb)) (fun e => .inr (by rw [e] at hb; simp only [Option.some.injEq] at hb; omega)))
  obtain ⟨A4, c4', hv4⟩ := k1.slice
  obtain ⟨n4, hn4⟩ : ∃ m, (s3.ps ++ [0]).length = m := ⟨_, rfl⟩
  rw [hn4] at hv4
  subst hv4
  have d3 : w4.cell? ⟨P, 3, none⟩ = some (.slice A0 n0 cp0) := (cell_of_row _ _ _ _ _ _ G.1).trans rfl
  have hfz4 : w4.frozen? ⟨P, 3, none⟩ = false := frozen_of_row w4 P 3 _ _ G.1
  have hPl4 := lt_of_heap G.1
  have HG := Lib.hid G.2
  clear k1 k2 k4 G hn4
  have HF : Hid (QTakeOk w (w4.setCell ⟨P, 3, none⟩ (.slice A4 n4 c4')) P base (seqS s 59) (.slice A 0 cp) (.slice A0 n0 cp0) vt (.slice none 0 0)) := Lib.hid (by
    rw [HCS.out, HSZ.out]
    have e : seqD s 59 = { s3 with ps := s3.ps ++ [0] } := by unfold seqD; rw [if_pos rfl, if_pos (by rw [HM2.out.1]; omega), HM3.out, ← HS3.out.1]
    rw [e]
    exact QTakeOk.no (QStep.then HI3.out HNB.out ⟨_, _, _, HG.out⟩))
  go_wp2_with fail
  go_ret
  exact ⟨_, rfl, HF.out⟩
theorem rseq_00no (P base : Nat) (s : RS) (vm vp vt : Value) (c : Int) (hc : c = 59) (hmid : s.mid.length = 0) (hmany : 16 ≤ s.many) (w : World) (h : QW w P base s vm vp vt) (ho : ROk s) (hbase : base ≤ w.heap.size) :
    Calls Try.prog 32 #[.pointer (some ⟨P, 0, none⟩), .int .i32 c] w fun e w' => ∃ v, e = .returned v ∧ QTakeOk w w' P base (seqS s c) vm vp vt v := by
  obtain rfl : c = 59 := hc
  obtain ⟨A, cp, hvm⟩ := h.m.slice
  obtain ⟨A0, cp0, hvp⟩ := h.p.slice
  obtain ⟨n, hn⟩ : ∃ n, s.mid.length = n := ⟨_, rfl⟩
  obtain ⟨n0, hn0⟩ : ∃ n, s.ps.length = n := ⟨_, rfl⟩
  obtain ⟨m, hm⟩ : ∃ n, s.many = n := ⟨_, rfl⟩
  have hmb : m ≤ 1125899906842624 := by rw [← hm]; exact ho.big
  have hmn : m = n0 ∨ 17 ≤ m := by rw [← hm, ← hn0]; exact ho.many
  have hn016 : n0 ≤ 16 := by rw [← hn0]; exact ho.ps.1
  rw [hn] at hvm hmid
  rw [hn0] at hvp
  rw [hm] at hmany
  subst hvm hvp
  have H := Lib.hid h
  have HOK := Lib.hid ho
  have HBS := Lib.hid hbase
  have hPl := lt_of_heap h.hP
  have HCS : Hid (seqS s 59 = (seqD (seqZ (seqB s)) 59, [])) := Lib.hid (by unfold seqS; rw [if_pos (.inr rfl)])
  have c2 : w.cell? ⟨P, 2, none⟩ = some (.slice A n cp) := h.cell rfl
  obtain rfl : n = 0 := hmid
  have HSB : Hid (seqB s = s) := Lib.hid (by unfold seqB; rw [hn]; cases s; simp)
  have HS1 : Hid (s.ps = s.ps ∧ s.many = m) := Lib.hid ⟨rfl, hm⟩
  have H1 := H
  have HI1 : Hid (Inv w (PB P (.slice A 0 cp) (.slice A0 n0 cp0) vt) gh0 w) := Lib.hid (Inv.ofBelow (Below.refl _ _))
  have c41 : w.cell? ⟨P, 4, none⟩ = some (.int .i64 m) := by have : w.cell? ⟨P, 4, none⟩ = some (.int .i64 s.many) := h.cell rfl; rw [hm] at this; exact this
  have c31 : w.cell? ⟨P, 3, none⟩ = some (.slice A0 n0 cp0) := h.cell rfl
  have HBS1 : Hid (base ≤ w.heap.size) := Lib.hid (by have := HBS.out; have := HI1.out.size; omega)
  have hm0 : ((m : Int) == 0) = false := by simp; omega
  have HSZ : Hid (seqZ (seqB s) = s) := Lib.hid (by rw [HSB.out]; unfold seqZ; rw [if_neg (by rw [HS1.out.2]; omega)])
  have HNB : Hid (∀ g, PB P (.slice A 0 cp) (.slice A0 n0 cp0) vt g → PB P (.slice A 0 cp) (.slice A0 n0 cp0) vt g ∨ w.heap.size ≤ g) := Lib.hid (fun g hg => .inl hg)
  have HM2 : Hid (s.many = m ∧ s.ps.length = n0) := Lib.hid ⟨HS1.out.2, by rw [HS1.out.1]; exact hn0⟩
  have HPSR : Hid (∀ x ∈ s.ps, 0 ≤ x ∧ x ≤ 9999) := Lib.hid (by rw [HS1.out.1]; exact HOK.out.ps.2)
  obtain ⟨m3, hm3⟩ : ∃ x, m + 1 = x := ⟨_, rfl⟩
  have hadd : IntKind.i64.wrap ((m : Int) + 1) = (m3 : Int) := (IntWalk.i64_in _ (by omega)).trans (by omega)
  have HM3 : Hid (s.many + 1 = m3) := Lib.hid (by rw [HM2.out.1]; exact hm3)
  have h16 : ¬ (m3 : Int) ≤ 16 := by omega
  have hf42 : w.frozen? ⟨P, 4, none⟩ = false := frozen_of_row w P 4 _ _ H1.out.hP
  obtain ⟨W3, hW3⟩ : ∃ W, w.setCell ⟨P, 4, none⟩ (.int .i64 (m3 : Int)) = W := ⟨_, rfl⟩
  have hh3 : QW (w.setCell ⟨P, 4, none⟩ (.int .i64 (m3 : Int))) P base { s with many := m3 } (.slice A 0 cp) (.slice A0 n0 cp0) vt := H1.out.set rfl rfl rfl rfl
  rw [hW3] at hh3
  obtain ⟨s3, hs3⟩ : ∃ x : RS, { s with many := m3 } = x := ⟨_, rfl⟩
  rw [hs3] at hh3
  have HS3 : Hid ({ s with many := m3 } = s3 ∧ s3.ps = s.ps) := Lib.hid ⟨hs3, by rw [← hs3]⟩
  have HI3 : Hid (Inv w (PB P (.slice A 0 cp) (.slice A0 n0 cp0) vt) gh0 W3) := Lib.hid (by rw [← hW3]; exact HI1.out.then (Inv.ofSet (S := fun g => g = P) rfl) (fun g hg _ => .inl hg))
  have H3 := Lib.hid hh3
  have hPl3 := lt_of_heap hh3.hP
  have c43 : W3.cell? ⟨P, 4, none⟩ = some (.int .i64 (m3 : Int)) := by have : W3.cell? ⟨P, 4, none⟩ = some (.int .i64 s3.many) := hh3.cell rfl; rw [← hs3] at this; exact this
  have c33 : W3.cell? ⟨P, 3, none⟩ = some (.slice A0 n0 cp0) := hh3.cell rfl
  have HBS3 : Hid (base ≤ W3.heap.size) := Lib.hid (by have := HBS.out; have := HI3.out.size; omega)
  have HF : Hid (QTakeOk w W3 P base (seqS s 59) (.slice A 0 cp) (.slice A0 n0 cp0) vt (.slice none 0 0)) := Lib.hid (by
    rw [HCS.out, HSZ.out]
    have e : seqD s 59 = s3 := by unfold seqD; rw [if_pos rfl, if_neg (by rw [HM2.out.1]; omega), HM3.out]; exact HS3.out.1
    rw [e]
    exact QTakeOk.no (QStep.then HI3.out HNB.out (QStep.refl H3.out)))
  clear hh3 hs3 h ho hbase hn hn0 hm
  go_enter Try.func32, Try.ntmps32
  go_wp2_with fail
  go_ret
  exact ⟨_, rfl, HF.out⟩
theorem rseq_00set (P base : Nat) (s : RS) (vm vp vt : Value) (c : Int) (hc : 48 ≤ c ∧ c ≤ 57) (hmid : s.mid.length = 0) (hmany : 0 < s.many ∧ s.many ≤ 16) (w : World) (h : QW w P base s vm vp vt) (ho : ROk s) (hbase : base ≤ w.heap.size) :
    Calls Try.prog 32 #[.pointer (some ⟨P, 0, none⟩), .int .i32 c] w fun e w' => ∃ v, e = .returned v ∧ QTakeOk w w' P base (seqS s c) vm vp vt v := by
  obtain ⟨A, cp, hvm⟩ := h.m.slice
  obtain ⟨A0, cp0, hvp⟩ := h.p.slice
  obtain ⟨n, hn⟩ : ∃ n, s.mid.length = n := ⟨_, rfl⟩
  obtain ⟨n0, hn0⟩ : ∃ n, s.ps.length = n := ⟨_, rfl⟩
  obtain ⟨m, hm⟩ : ∃ n, s.many = n := ⟨_, rfl⟩
  have hmb : m ≤ 1125899906842624 := by rw [← hm]; exact ho.big
  have hmn : m = n0 ∨ 17 ≤ m := by rw [← hm, ← hn0]; exact ho.many
  have hn016 : n0 ≤ 16 := by rw [← hn0]; exact ho.ps.1
  rw [hn] at hvm hmid
  rw [hn0] at hvp
  rw [hm] at hmany
  subst hvm hvp
  have H := Lib.hid h
  have HOK := Lib.hid ho
  have HBS := Lib.hid hbase
  have hPl := lt_of_heap h.hP
  have HCS : Hid (seqS s c = (seqD (seqZ (seqB s)) c, [])) := Lib.hid (by unfold seqS; rw [if_pos (.inl hc)])
  have hy0 : 48 ≤ c := by omega
  have hy1 : c ≤ 57 := by omega
  have hne59 : (c == 59) = false := by simp; omega
  have c2 : w.cell? ⟨P, 2, none⟩ = some (.slice A n cp) := h.cell rfl
  obtain rfl : n = 0 := hmid
  have HSB : Hid (seqB s = s) := Lib.hid (by unfold seqB; rw [hn]; cases s; simp)
  have HS1 : Hid (s.ps = s.ps ∧ s.many = m) := Lib.hid ⟨rfl, hm⟩
  have H1 := H
  have HI1 : Hid (Inv w (PB P (.slice A 0 cp) (.slice A0 n0 cp0) vt) gh0 w) := Lib.hid (Inv.ofBelow (Below.refl _ _))
  have c41 : w.cell? ⟨P, 4, none⟩ = some (.int .i64 m) := by have : w.cell? ⟨P, 4, none⟩ = some (.int .i64 s.many) := h.cell rfl; rw [hm] at this; exact this
  have c31 : w.cell? ⟨P, 3, none⟩ = some (.slice A0 n0 cp0) := h.cell rfl
  have HBS1 : Hid (base ≤ w.heap.size) := Lib.hid (by have := HBS.out; have := HI1.out.size; omega)
  have hm0 : ((m : Int) == 0) = false := by simp; omega
  have HSZ : Hid (seqZ (seqB s) = s) := Lib.hid (by rw [HSB.out]; unfold seqZ; rw [if_neg (by rw [HS1.out.2]; omega)])
  have HNB : Hid (∀ g, PB P (.slice A 0 cp) (.slice A0 n0 cp0) vt g → PB P (.slice A 0 cp) (.slice A0 n0 cp0) vt g ∨ w.heap.size ≤ g) := Lib.hid (fun g hg => .inl hg)
  have HM2 : Hid (s.many = m ∧ s.ps.length = n0) := Lib.hid ⟨HS1.out.2, by rw [HS1.out.1]; exact hn0⟩
  have HPSR : Hid (∀ x ∈ s.ps, 0 ≤ x ∧ x ≤ 9999) := Lib.hid (by rw [HS1.out.1]; exact HOK.out.ps.2)
  have hcr : 48 ≤ c ∧ c ≤ 57 := hc
  have h16 : (m : Int) ≤ 16 := by omega
  obtain ⟨i, hi⟩ : ∃ i, m - 1 = i := ⟨_, rfl⟩
  obtain ⟨g, gc, hgv, hgc⟩ := H1.out.p.cell (i := i) (by rw [HM2.out.2]; omega)
  have hmeq : m = n0 := by omega
  have hgl : s.ps.length = n0 := HM2.out.2
  rw [hgl] at hgv
  simp only [Value.slice.injEq, true_and] at hgv
  obtain ⟨rfl, rfl⟩ := hgv
  have HGV : Hid (Value.slice (some ⟨g, 0, none⟩) n0 cp0 = .slice (some ⟨g, 0, none⟩) s.ps.length cp0) := Lib.hid (by rw [HM2.out.2])
  obtain ⟨x, hx⟩ : ∃ x, s.ps.getD i 0 = x := ⟨_, rfl⟩
  rw [hx] at hgc
  have hx9 : 0 ≤ x ∧ x ≤ 9999 := by rw [← hx]; exact getD_ok HPSR.out
  obtain ⟨y, hy⟩ : ∃ y, min 9999 (10 * x + c - 48) = y := ⟨_, rfl⟩
  have hy1 : (if (9999 : Int) < 10 * x + c - 48 then (9999 : Int) else 10 * x + c - 48) = y := by rw [← hy]; split <;> omega
  have hy2 : (if 10 * x + c - 48 < (9999 : Int) then 10 * x + c - 48 else (9999 : Int)) = y := by rw [← hy]; split <;> omega
  have hwc0 : IntKind.i64.wrap (10 * x) = 10 * x := IntWalk.i64_in _ (by omega)
  have hwc1 : IntKind.i64.wrap c = c := IntWalk.i64_in _ (by omega)
  have hwc2 : IntKind.i64.wrap (10 * x + c) = 10 * x + c := IntWalk.i64_in _ (by omega)
  have hwc3 : IntKind.i64.wrap (10 * x + c - 48) = 10 * x + c - 48 := IntWalk.i64_in _ (by omega)
  have hwi : IntKind.i64.wrap ((m : Int) - 1) = (i : Int) := (IntWalk.i64_in _ (by omega)).trans (by omega)
  have hil : (i : Int) < (n0 : Int) := by omega
  have hi0 : (0 : Int) ≤ (i : Int) := by omega
  have HY : Hid (min 9999 (10 * s.ps.getD (s.many - 1) 0 + c - 48) = y) := Lib.hid (by rw [HM2.out.1, hi, hx, hy])
  have hfx : w.frozen? ⟨g, i, none⟩ = false := by
    obtain ⟨_, cur, hh⟩ := H1.out.p.blk (b := g) rfl
    exact frozen_of_row w g i _ _ hh
  have HIX : Hid (s.many - 1 = i) := Lib.hid (by rw [HM2.out.1]; exact hi)
  have hmn1 : m ≠ 0 := by omega
  have HDR : Hid (Below w.heap.size w w.drew) := Lib.hid (Below.drew (Below.refl _ _))
  have HF : Hid (QTakeOk w (w.drew.setCell ⟨g, i, none⟩ (.int .i64 y)) P base (seqS s c) (.slice A 0 cp) (.slice (some ⟨g, 0, none⟩) n0 cp0) vt (.slice none 0 0)) := Lib.hid (by
    rw [HCS.out, HSZ.out]
    have e : seqD s c = { s with ps := s.ps.set i y } := by
      unfold seqD
      rw [if_neg (by omega), if_pos (by rw [HM2.out.1]; omega), HY.out, HIX.out]
    rw [e]
    exact QTakeOk.no (QStep.then (HI1.out.then (Inv.ofBelow (S := fun _ => False) HDR.out) (fun g hg _ => hg.elim)) HNB.out (QStep.elem (H1.out.below HDR.out) HGV.out y)))
  have hgl2 : g < w.heap.size := H1.out.p.lt (b := g) rfl
  clear hc hcr h ho hbase hn hn0 hm hi hx hy hmeq hgl
  go_enter Try.func32, Try.ntmps32
  go_wp2_with (go_still_tail 27, (by kernel_rfl))
  go_ret
  exact ⟨_, rfl, HF.out⟩
theorem rseq_00keep (P base : Nat) (s : RS) (vm vp vt : Value) (c : Int) (hc : 48 ≤ c ∧ c ≤ 57) (hmid : s.mid.length = 0) (hmany : 17 ≤ s.many) (w : World) (h : QW w P base s vm vp vt) (ho : ROk s) (hbase : base ≤ w.heap.size) :
    Calls Try.prog 32 #[.pointer (some ⟨P, 0, none⟩), .int .i32 c] w fun e w' => ∃ v, e = .returned v ∧ QTakeOk w w' P base (seqS s c) vm vp vt v := by
  obtain ⟨A, cp, hvm⟩ := h.m.slice
  obtain ⟨A0, cp0, hvp⟩ := h.p.slice
  obtain ⟨n, hn⟩ : ∃ n, s.mid.length = n := ⟨_, rfl⟩
  obtain ⟨n0, hn0⟩ : ∃ n, s.ps.length = n := ⟨_, rfl⟩
  obtain ⟨m, hm⟩ : ∃ n, s.many = n := ⟨_, rfl⟩
  have hmb : m ≤ 1125899906842624 := by rw [← hm]; exact ho.big
  have hmn : m = n0 ∨ 17 ≤ m := by rw [← hm, ← hn0]; exact ho.many
  have hn016 : n0 ≤ 16 := by rw [← hn0]; exact ho.ps.1
  rw [hn] at hvm hmid
  rw [hn0] at hvp
  rw [hm] at hmany
  subst hvm hvp
  have H := Lib.hid h
  have HOK := Lib.hid ho
  have HBS := Lib.hid hbase
  have hPl := lt_of_heap h.hP
  have HCS : Hid (seqS s c = (seqD (seqZ (seqB s)) c, [])) := Lib.hid (by unfold seqS; rw [if_pos (.inl hc)])
  have hy0 : 48 ≤ c := by omega
  have hy1 : c ≤ 57 := by omega
  have hne59 : (c == 59) = false := by simp; omega
  have c2 : w.cell? ⟨P, 2, none⟩ = some (.slice A n cp) := h.cell rfl
  obtain rfl : n = 0 := hmid
  have HSB : Hid (seqB s = s) := Lib.hid (by unfold seqB; rw [hn]; cases s; simp)
  have HS1 : Hid (s.ps = s.ps ∧ s.many = m) := Lib.hid ⟨rfl, hm⟩
  have H1 := H
  have HI1 : Hid (Inv w (PB P (.slice A 0 cp) (.slice A0 n0 cp0) vt) gh0 w) := Lib.hid (Inv.ofBelow (Below.refl _ _))
  have c41 : w.cell? ⟨P, 4, none⟩ = some (.int .i64 m) := by have : w.cell? ⟨P, 4, none⟩ = some (.int .i64 s.many) := h.cell rfl; rw [hm] at this; exact this
  have c31 : w.cell? ⟨P, 3, none⟩ = some (.slice A0 n0 cp0) := h.cell rfl
  have HBS1 : Hid (base ≤ w.heap.size) := Lib.hid (by have := HBS.out; have := HI1.out.size; omega)
  have hm0 : ((m : Int) == 0) = false := by simp; omega
  have HSZ : Hid (seqZ (seqB s) = s) := Lib.hid (by rw [HSB.out]; unfold seqZ; rw [if_neg (by rw [HS1.out.2]; omega)])
  have HNB : Hid (∀ g, PB P (.slice A 0 cp) (.slice A0 n0 cp0) vt g → PB P (.slice A 0 cp) (.slice A0 n0 cp0) vt g ∨ w.heap.size ≤ g) := Lib.hid (fun g hg => .inl hg)
  have HM2 : Hid (s.many = m ∧ s.ps.length = n0) := Lib.hid ⟨HS1.out.2, by rw [HS1.out.1]; exact hn0⟩
  have HPSR : Hid (∀ x ∈ s.ps, 0 ≤ x ∧ x ≤ 9999) := Lib.hid (by rw [HS1.out.1]; exact HOK.out.ps.2)
  have hcr : 48 ≤ c ∧ c ≤ 57 := hc
  have h16 : ¬ (m : Int) ≤ 16 := by omega
  have HF : Hid (QTakeOk w w P base (seqS s c) (.slice A 0 cp) (.slice A0 n0 cp0) vt (.slice none 0 0)) := Lib.hid (by
    rw [HCS.out, HSZ.out]
    have e : seqD s c = s := by unfold seqD; rw [if_neg (by omega), HM2.out.1, if_neg (by omega)]
    rw [e]
    exact QTakeOk.no (QStep.then HI1.out HNB.out (QStep.refl H1.out)))
  clear hc hcr h ho hbase hn hn0 hm
  go_enter Try.func32, Try.ntmps32
  go_wp2_with fail
  go_ret
  exact ⟨_, rfl, HF.out⟩
theorem rseq_any (P base : Nat) (s : RS) (vm vp vt : Value) (c : Int) (hc : 0 ≤ c) (w : World) (h : QW w P base s vm vp vt) (ho : ROk s) (hbase : base ≤ w.heap.size) :
    Calls Try.prog 32 #[.pointer (some ⟨P, 0, none⟩), .int .i32 c] w fun e w' => ∃ v, e = .returned v ∧ QTakeOk w w' P base (seqS s c) vm vp vt v := by
  rcases (by omega : (48 ≤ c ∧ c ≤ 57) ∨ c = 59 ∨ c = 58 ∨ (60 ≤ c ∧ c ≤ 63) ∨ (32 ≤ c ∧ c < 48) ∨ (64 ≤ c ∧ c < 127) ∨ 128 ≤ c ∨ c = 127 ∨ c < 32) with hc | hc | hc | hc | hc | hc | hc | hc | hc
  · rcases (by omega : 0 < s.mid.length ∨ s.mid.length = 0) with h1 | h1
    · rcases (by omega : s.many = 0 ∨ (0 < s.many ∧ s.many ≤ 16) ∨ 17 ≤ s.many) with h2 | h2 | h2
      · exact rseq_11set P base s vm vp vt c hc h1 h2 w h ho hbase
      · exact rseq_10set P base s vm vp vt c hc h1 h2 w h ho hbase
      · exact rseq_10keep P base s vm vp vt c hc h1 h2 w h ho hbase
    · rcases (by omega : s.many = 0 ∨ (0 < s.many ∧ s.many ≤ 16) ∨ 17 ≤ s.many) with h2 | h2 | h2
      · exact rseq_01set P base s vm vp vt c hc h1 h2 w h ho hbase
      · exact rseq_00set P base s vm vp vt c hc h1 h2 w h ho hbase
      · exact rseq_00keep P base s vm vp vt c hc h1 h2 w h ho hbase
  · rcases (by omega : 0 < s.mid.length ∨ s.mid.length = 0) with h1 | h1
    · rcases (by omega : s.many = 0 ∨ (0 < s.many ∧ s.many < 16) ∨ 16 ≤ s.many) with h2 | h2 | h2
      · exact rseq_11app P base s vm vp vt c hc h1 h2 w h ho hbase
      · exact rseq_10app P base s vm vp vt c hc h1 h2 w h ho hbase
      · exact rseq_10no P base s vm vp vt c hc h1 h2 w h ho hbase
    · rcases (by omega : s.many = 0 ∨ (0 < s.many ∧ s.many < 16) ∨ 16 ≤ s.many) with h2 | h2 | h2
      · exact rseq_01app P base s vm vp vt c hc h1 h2 w h ho hbase
      · exact rseq_00app P base s vm vp vt c hc h1 h2 w h ho hbase
      · exact rseq_00no P base s vm vp vt c hc h1 h2 w h ho hbase
  · exact rsequence_colon P base s vm vp vt c hc w h ho hbase
  · exact rsequence_priv P base s vm vp vt c hc w h ho hbase
  · exact rsequence_gather P base s vm vp vt c hc w h ho hbase
  · exact rsequence_end P base s vm vp vt c hc w h ho hbase
  · exact rsequence_high P base s vm vp vt c hc w h ho hbase
  · exact rsequence_del P base s vm vp vt c hc w h ho hbase
  · exact rsequence_low P base s vm vp vt c hc w h ho hbase
end Go.Proofs.Ytecgipccippddaa
